/- Contracts of the laws' helpers on []int64: copy, compare, mark, held. Conditions: lengths at most 2^20 (or what is stated). -/
import Derived.Test.YtjeaiihgedennaaLib
namespace Go.Proofs.Ytjeaiihgedennaa
open Go.ChangeShapes Go.WideShapes Go.ChangeAt Go.RowKit

set_option maxHeartbeats 400000 in
theorem toI (A : Option Addr) (n c : Nat) (xs : List Int) (w : World) (hr : Rd w A n (iv xs)) (hn : n ≤ 1048576) :
    Calls Try.prog 25 #[.slice A n c] w fun e w' =>
      ∃ g, e = .returned (.slice (some ⟨g, 0, none⟩) n n) ∧ Bk w' g 2 (iv xs) ∧ w.heap.size ≤ g ∧ Below w.heap.size w w' := by
  obtain ⟨i0, hi, hz0, hz1, hz2⟩ := info_parts info_i64
  have hlen := hr.len
  have Hlen := hide hlen
  clear hlen
  go_enter Try.func25, Try.ntmps25
  go_wp2_with (at_make; refine wpList_make_full _ rfl _ _ 45 rfl w.heap.size 2 i0 (.int .i64 0) 1 Try.underlying45 hi hz0 hz1 _ _ _ _ n rfl rfl rfl rfl ?b2 ?b3 (Nat.le_refl _) ?_)
  case b2 => rw [hz2]; omega
  case b3 => unfold maxLen; omega
  intro w0 hown0 hgrow0
  have hB0 := Bk.of_grown hown0
  rw [rep_iv] at hB0
  have hb0 : Below w.heap.size w w0 := (Below.refl _ _).grown hgrow0 (Nat.le_refl _) (fun k h => by cases h)
  clear hown0 hgrow0
  go_wp2
  go_loopw [4] (fun i wr => ∃ k : Nat, k ≤ n ∧ i = .int .i64 k ∧ Bk wr w.heap.size 2 (iv (xs.take k ++ List.replicate (n - k) 0)) ∧ Below w.heap.size w wr)
    (fun i _ => n - (intOf i).toNat)
  case atStart => exact ⟨0, Nat.zero_le _, rfl, by simpa using hB0, hb0⟩
  case round =>
    obtain ⟨k, hk, rfl, hB, hb⟩ := hrel
    by_cases hlt : k < n
    · obtain ⟨ad, rfl, hbl, hc⟩ := (hr.below hb).int hlt
      have hc2 := hB.int (k := k) (by simp [Hlen.out]; omega)
      have hfr := hB.free k
      have hs := hB.seti k (xs.getD k 0)
      have HS := hide hs
      have HB := hide hb
      clear hs hB hb hB0 hb0
      go_wp2
      go_roundw
      case rel =>
        refine ⟨k + 1, by omega, by go_num, ?_, HB.out.setCell (Nat.le_refl _) _⟩
        have e : (xs.take k ++ List.replicate (n - k) 0).set k (xs.getD k 0) = xs.take (k + 1) ++ List.replicate (n - (k + 1)) 0 := by
          rw [take_snoc' xs 0 k (by rw [Hlen.out]; exact hlt), List.set_append]
          have hl : (xs.take k).length = k := by simp [Hlen.out]; omega
          rw [if_neg (by omega), hl, show n - k = (n - (k + 1)) + 1 from by omega, List.replicate_succ]
          simp
        have h := HS.out
        rw [e] at h
        simpa [List.getD] using h
      case measure => simp [intOf]; omega
    · have hkn : k = n := by omega
      subst hkn
      have HB := hide hB
      have Hb := hide hb
      clear hB hb hB0 hb0
      go_wp2
      go_ret
      refine ⟨_, rfl, ?_, Nat.le_refl _, Hb.out⟩
      have h := HB.out
      rw [List.take_of_length_le (by rw [Hlen.out]; exact Nat.le_refl _)] at h
      simpa using h

set_option maxHeartbeats 400000 in
/-- two slices that read alike: true -/
theorem eqI (A B : Option Addr) (n c d : Nat) (xs : List Int) (w : World) (hr : Rd w A n (iv xs)) (hr2 : Rd w B n (iv xs)) (hn : n ≤ 1048576) :
    Calls Try.prog 27 #[.slice A n c, .slice B n d] w fun e w' => e = .returned (.bool true) ∧ ∃ q, w' = w.drewN q := by
  go_enter Try.func27, Try.ntmps27
  go_wp2
  go_loopw [5] (fun i wr => ∃ k : Nat, k ≤ n ∧ i = .int .i64 k ∧ Hid (∃ q, wr = w.drewN q)) (fun i _ => n - (intOf i).toNat)
  case atStart => exact ⟨0, Nat.zero_le _, rfl, 0, rfl⟩
  case round =>
    obtain ⟨k, hk, rfl, hq⟩ := hrel
    obtain ⟨q, rfl⟩ := hq.out
    by_cases hlt : k < n
    · obtain ⟨ad, rfl, hbl, hc⟩ := hr.int hlt
      obtain ⟨ad2, rfl, hbl2, hc2⟩ := hr2.int hlt
      go_wp2
      go_quiet (fail)
      go_wp2
      go_roundw
      case rel => exact ⟨k + 1, by omega, by go_num, _, rfl⟩
      case measure => simp [intOf]; omega
    · go_wp2
      go_ret
      exact ⟨rfl, _, rfl⟩

/-- the list of the marks k, k + 1, .. -/
def marks (k n : Nat) : List Int := (List.range n).map fun i => ((k + i : Nat) : Int)
theorem marks_len (k n : Nat) : (marks k n).length = n := by simp [marks]
theorem marks_get (k n i : Nat) (h : i < n) : (marks k n).getD i 0 = ((k + i : Nat) : Int) := by simp [marks, List.getD, h]

set_option maxHeartbeats 400000 in
theorem markI (lo hi : Nat) (v : Value) (xs : List Int) (k0 : Nat) (w : World) (ho : Own w lo hi v xs) (hn : xs.length ≤ 1048576) (hk0 : k0 ≤ 1048576 * 1024) :
    Calls Try.prog 51 #[v, .int .i64 k0] w fun e w' =>
      e = .returned (.int .i64 (k0 + xs.length : Nat)) ∧ Own w' lo hi v (marks k0 xs.length) ∧ w.grownBy w' v.ownBlock := by
  obtain ⟨h1, h2⟩ := ho
  have h1' := h1
  rcases h1.2 with ⟨rfl, h0⟩ | ⟨g, cap, cur, rfl, hl, hg, hnc, hm, _⟩
  · have : xs = [] := List.eq_nil_of_length_eq_zero h0
    subst this
    go_enter Try.func51, Try.ntmps51
    go_wp2
    refine wp_loop_rounds 1 ?_
    rw [rounds_succ]
    go_wp2
    go_ret
    exact ⟨rfl, Own.nil _ _ _, World.grownBy.refl _ _⟩
  · generalize hN : xs.length = n at *
    have Hn := hide hN
    clear hN
    have H2 := hide h2
    clear h2
    clear h1
    go_enter Try.func51, Try.ntmps51
    go_wp2
    go_loopw [1, 5] (fun m i wr => ∃ k : Nat, k ≤ n ∧ i = .int .i64 k ∧ m = .int .i64 ((k0 + k : Nat) : Int) ∧ Hid (wr.ownsRow lo 2 1 (.slice (some ⟨g, 0, none⟩) n cap) n (iv (marks k0 k ++ xs.drop k))) ∧ Hid (w.grownBy wr (some g)))
      (fun _ i _ => n - (intOf i).toNat)
    case atStart => exact ⟨0, Nat.zero_le _, rfl, rfl, hide (by simpa [marks] using h1'), World.grownBy.refl _ _⟩
    case round =>
      obtain ⟨k, hk, rfl, rfl, hB, hb⟩ := hrel
      by_cases hlt : k < n
      · have hc := hB.out.cellAt k (by omega)
        have hll : (marks k0 k ++ xs.drop k).length = n := by rw [List.length_append, marks_len, List.length_drop, Hn.out]; omega
        rw [iv_get (by omega)] at hc
        have hf := hB.out.frozenAt k
        have hs := hB.out.stored k (.int .i64 ((k0 + k : Nat) : Int))
        have HS := hide hs
        clear hs hll hg
        go_wp2
        go_roundw
        case rel =>
          refine ⟨k + 1, by omega, by go_num, by go_num, ?_, ?_⟩
          · have e : (iv (marks k0 k ++ xs.drop k)).set k (.int .i64 ((k0 + k : Nat) : Int)) = iv (marks k0 (k + 1) ++ xs.drop (k + 1)) := by
              rw [← List.map_set, List.set_append, if_neg (by rw [marks_len]; omega), marks_len, Nat.sub_self]
              have : xs.drop k = xs.getD k 0 :: xs.drop (k + 1) := by
                rw [List.drop_eq_getElem_cons (by rw [Hn.out]; exact hlt)]
                simp [List.getD, Hn.out, hlt]
              rw [this]
              simp [marks, List.range_succ]
            have h := HS.out.1
            rw [e] at h
            exact h
          · exact hb.out.trans HS.out.2
        case measure => simp [intOf]; omega
      · have hkn : k = n := by omega
        subst hkn
        go_wp2
        go_ret
        refine ⟨rfl, ⟨?_, fun j hj => ?_⟩, hb.out⟩
        · rw [marks_len]
          have h := hB.out
          rw [List.drop_of_length_le (by rw [Hn.out]; exact Nat.le_refl _), List.append_nil] at h
          exact h
        · exact H2.out j hj

/-- The slice value v reads, in w, as the integers xs. -/
def RV (w : World) (v : Value) (xs : List Int) : Prop := ∃ A c, v = .slice A xs.length c ∧ Rd w A xs.length (iv xs) ∧ xs.length ≤ c

theorem RV.below {w w' : World} {v : Value} {xs : List Int} (h : RV w v xs) (hb : Below w.heap.size w w') : RV w' v xs := by
  obtain ⟨A, c, e, hr, hc⟩ := h
  exact ⟨A, c, e, hr.below hb, hc⟩
theorem RV.drewN {w : World} {v : Value} {xs : List Int} (h : RV w v xs) (n : Nat) : RV (w.drewN n) v xs := h
theorem RV.mk {w : World} {A : Option Addr} {n c : Nat} {xs : List Int} (hr : Rd w A n (iv xs)) (hc : n ≤ c) : RV w (.slice A n c) xs := by
  have := hr.len
  subst this
  exact ⟨A, c, rfl, hr, hc⟩
theorem Own.rv {w : World} {lo hi : Nat} {v : Value} {xs : List Int} (h : Own w lo hi v xs) : RV w v xs := by
  obtain ⟨A, c, e, hc, _, hr, _⟩ := h.form
  exact ⟨A, c, e, hr, hc⟩
theorem Bk.rv {w : World} {g n : Nat} {t : TypeId} {xs : List Int} (h : Bk w g t (iv xs)) (hn : xs.length = n) : RV w (.slice (some ⟨g, 0, none⟩) n n) xs := RV.mk (h.rdi hn) (Nat.le_refl _)

theorem below_of_drew {w w' : World} (h : ∃ q, w' = w.drewN q) : Below w.heap.size w w' := by
  obtain ⟨q, rfl⟩ := h
  exact below_drewN (Below.refl _ _) q

/-- one block of the call's own was written: what lies elsewhere stays -/
theorem Own.marked {w w' : World} {lo hi lo' hi' : Nat} {v v' : Value} {xs ys : List Int} (h : Own w lo hi v xs) (hx : Own w lo' hi' v' ys) (hg : w.grownBy w' v'.ownBlock) (hd : hi ≤ lo' ∨ hi' ≤ lo) : Own w' lo hi v xs :=
  h.grown hg fun g e => by
    have h1 := hx.2 g e
    have h2 := (hx.1.lt g e).1
    omega
theorem Below.marked {B lo' hi' : Nat} {w w1 w' : World} {v' : Value} {ys : List Int} (h : Below B w w1) (hB : B ≤ lo') (hB2 : B ≤ w1.heap.size) (hx : Own w1 lo' hi' v' ys) (hg : w1.grownBy w' v'.ownBlock) : Below B w w' :=
  h.grown hg hB2 fun k hk => by
    have h2 := (hx.1.lt k hk).1
    omega

theorem toV (v : Value) (xs : List Int) (w : World) (hr : RV w v xs) (hn : xs.length ≤ 1048576) :
    Calls Try.prog 25 #[v] w fun e w' => ∃ v', e = .returned v' ∧ Own w' w.heap.size w'.heap.size v' xs ∧ Below w.heap.size w w' := by
  obtain ⟨A, c, rfl, hr, hc⟩ := hr
  refine (toI A _ c xs w hr hn).mono ?_
  rintro e w' ⟨g, rfl, hB, hg, hb⟩
  exact ⟨_, rfl, hB.owned hg (by unfold maxLen; omega), hb⟩

theorem eqV (v v' : Value) (xs : List Int) (w : World) (hr : RV w v xs) (hr' : RV w v' xs) (hn : xs.length ≤ 1048576) :
    Calls Try.prog 27 #[v, v'] w fun e w' => e = .returned (.bool true) ∧ Below w.heap.size w w' := by
  obtain ⟨A, c, rfl, hr, _⟩ := hr
  obtain ⟨A', c', rfl, hr', _⟩ := hr'
  exact (eqI A A' _ c c' xs w hr hr' hn).mono fun e w' ⟨h1, h2⟩ => ⟨h1, below_of_drew h2⟩

theorem markV (lo hi : Nat) (v : Value) (xs : List Int) (k : Int) (k0 : Nat) (w : World) (hk : k = (k0 : Int)) (ho : Own w lo hi v xs) (hn : xs.length ≤ 1048576) (hk0 : k0 ≤ 1048576 * 1024) :
    Calls Try.prog 51 #[v, .int .i64 k] w fun e w' =>
      e = .returned (.int .i64 (k + (xs.length : Int))) ∧ Own w' lo hi v (marks k0 xs.length) ∧ w.grownBy w' v.ownBlock := by
  subst hk
  exact (markI lo hi v xs k0 w ho hn hk0).mono fun e w' ⟨h1, h2⟩ => ⟨by rw [h1]; simp, h2⟩
end Go.Proofs.Ytjeaiihgedennaa
