/- Slices of bools, and the laws' helpers on them: copy, compare, mark. Conditions: lengths at most 2^20. -/
import Derived.Test.YtkbeelbklganaaaVal
import Derived.Test.YtkbeelbklganaaaApp
import Derived.Deep.Grids
namespace Go.Proofs.Ytkbeelbklganaaa
open Go.ChangeShapes Go.WideShapes Go.ChangeAt Go.RowKit

/-- bools as cells -/
abbrev bv (xs : List Bool) : List Value := xs.map Value.bool
theorem bv_get {xs : List Bool} {k : Nat} (hk : k < xs.length) : (bv xs)[k]? = some (.bool (xs.getD k false)) := by
  simp [bv, List.getD, hk]
theorem Rd.bool {w : World} {n : Nat} {A : Option Addr} {xs : List Bool} (h : Rd w A n (bv xs)) {k : Nat} (hk : k < n) :
    ∃ ad, A = some ad ∧ ad.block < w.heap.size ∧ w.cell? (ad.add k) = some (.bool (xs.getD k false)) := by
  obtain ⟨ad, u, e, hb, hu, hc⟩ := h.at hk
  have hl : k < xs.length := by have := h.1; simp [bv] at this; omega
  rw [bv_get hl] at hu
  injection hu with hu
  subst hu
  exact ⟨ad, e, hb, hc⟩
theorem Rd.blen {w : World} {n : Nat} {A : Option Addr} {xs : List Bool} (h : Rd w A n (bv xs)) : xs.length = n := by simpa [bv] using h.1
theorem Bk.bool {w : World} {g : Nat} {t : TypeId} {xs : List Bool} (h : Bk w g t (bv xs)) {k : Nat} (hk : k < xs.length) :
    w.cell? ⟨g, k, none⟩ = some (.bool (xs.getD k false)) := by rw [h.cell, bv_get hk]
theorem Bk.setbb {w : World} {g : Nat} {t : TypeId} {xs : List Bool} (h : Bk w g t (bv xs)) (i : Nat) (x : Bool) : Bk (w.setCell ⟨g, i, none⟩ (.bool x)) g t (bv (xs.set i x)) := by
  have := h.set i (.bool x)
  rw [← List.map_set] at this
  exact this
theorem Bk.rdb {w : World} {g n : Nat} {t : TypeId} {xs : List Bool} (h : Bk w g t (bv xs)) (hn : xs.length = n) : Rd w (some ⟨g, 0, none⟩) n (bv xs) := by
  have := h.rd
  rwa [show (bv xs).length = n from by simpa [bv] using hn] at this
theorem grown_set (w : World) (p : Addr) (u : Value) : w.grownBy (w.setCell p u) (some p.block) :=
  ⟨rfl, rfl, rfl, by rw [set_size]; exact Nat.le_refl _, fun i _ h => Below.heap_setCell w p u i (fun e => h (by rw [e]))⟩
theorem info_bool : (Try.prog.info? 4).map (fun i => (i.zero, i.size, i.bytes)) = some (some (.bool false), 1, 1) := by kernel_rfl
theorem rep_bv (n : Nat) (x : Bool) : List.replicate n (Value.bool x) = bv (List.replicate n x) := by simp [bv]
theorem rdB_of {w : World} {a : Addr} {len cap : Nat} {B : Nat → Bool} (hl : len ≤ cap) (hm : cap ≤ maxLen) (h : ∀ i, i < cap → w.cell? (a.add i) = some (.bool (B i))) :
    ∃ xs : List Bool, xs.length = len ∧ Rd w (some a) len (bv xs) ∧ len ≤ cap ∧ len ≤ 9223372036854775807 := by
  unfold maxLen at hm
  refine ⟨(List.range len).map B, by simp, ⟨by simp [bv], fun hn => ⟨a, rfl, ?_, fun j u hu => ?_⟩⟩, hl, by omega⟩
  · have := World.block_lt_of_cell? w _ (h 0 (by omega))
    rwa [add_block] at this
  · have hj : j < len := by
      have := (List.getElem?_eq_some_iff.1 hu).1
      simp [bv] at this
      omega
    rw [h j (by omega), ← hu]
    simp [bv, hj]

set_option maxHeartbeats 400000 in
theorem toB (A : Option Addr) (n c : Nat) (xs : List Bool) (w : World) (hr : Rd w A n (bv xs)) (hn : n ≤ 1048576) :
    Calls Try.prog 27 #[.slice A n c] w fun e w' =>
      ∃ g, e = .returned (.slice (some ⟨g, 0, none⟩) n n) ∧ Bk w' g 4 (bv xs) ∧ w.heap.size ≤ g ∧ Below w.heap.size w w' := by
  obtain ⟨i0, hi, hz0, hz1, hz2⟩ := info_parts info_bool
  have hlen := hr.blen
  have Hlen := hide hlen
  clear hlen
  go_enter Try.func27, Try.ntmps27
  go_wp2_with (at_make; refine wpList_make_full _ rfl _ _ 37 rfl w.heap.size 4 i0 (.bool false) 1 Try.underlying37 hi hz0 hz1 _ _ _ _ n rfl rfl rfl rfl ?b2 ?b3 (Nat.le_refl _) ?_)
  case b2 => rw [hz2]; omega
  case b3 => unfold maxLen; omega
  intro w0 hown0 hgrow0
  have hB0 := Bk.of_grown hown0
  rw [rep_bv] at hB0
  have hb0 : Below w.heap.size w w0 := (Below.refl _ _).grown hgrow0 (Nat.le_refl _) (fun k h => by cases h)
  clear hown0 hgrow0
  go_wp2
  go_loopw [4] (fun i wr => ∃ k : Nat, k ≤ n ∧ i = .int .i64 k ∧ Bk wr w.heap.size 4 (bv (xs.take k ++ List.replicate (n - k) false)) ∧ Below w.heap.size w wr)
    (fun i _ => n - (intOf i).toNat)
  case atStart => exact ⟨0, Nat.zero_le _, rfl, by simpa using hB0, hb0⟩
  case round =>
    obtain ⟨k, hk, rfl, hB, hb⟩ := hrel
    by_cases hlt : k < n
    · obtain ⟨ad, rfl, hbl, hc⟩ := (hr.below hb).bool hlt
      have hc2 := hB.bool (k := k) (by simp [Hlen.out]; omega)
      have hfr := hB.free k
      have hs := hB.setbb k (xs.getD k false)
      have HS := hide hs
      have HB := hide hb
      clear hs hB hb hB0 hb0
      go_wp2
      go_roundw
      case rel =>
        refine ⟨k + 1, by omega, by go_num, ?_, HB.out.setCell (Nat.le_refl _) _⟩
        have e : (xs.take k ++ List.replicate (n - k) false).set k (xs.getD k false) = xs.take (k + 1) ++ List.replicate (n - (k + 1)) false := by
          rw [take_snoc' xs false k (by rw [Hlen.out]; exact hlt), List.set_append]
          have hl : (xs.take k).length = k := by simp [Hlen.out]; omega
          rw [if_neg (by omega), hl, show n - k = (n - (k + 1)) + 1 from by omega, List.replicate_succ]
          simp
        have h := HS.out
        rw [e] at h
        simpa [List.getD] using h
      case measure => simp [intOf]; omega
    · have hkn : k = n := by omega
      subst hkn
      have HB := hide hB
      have Hb := hide hb
      clear hB hb hB0 hb0
      go_wp2
      go_ret
      refine ⟨_, rfl, ?_, Nat.le_refl _, Hb.out⟩
      have h := HB.out
      rw [List.take_of_length_le (by rw [Hlen.out]; exact Nat.le_refl _)] at h
      simpa using h

set_option maxHeartbeats 400000 in
/-- two slices that read alike: true -/
theorem eqB (A B : Option Addr) (n c d : Nat) (xs : List Bool) (w : World) (hr : Rd w A n (bv xs)) (hr2 : Rd w B n (bv xs)) (hn : n ≤ 1048576) :
    Calls Try.prog 29 #[.slice A n c, .slice B n d] w fun e w' => e = .returned (.bool true) ∧ Below w.heap.size w w' := by
  refine Calls.mono (R := fun e w' => e = .returned (.bool true) ∧ ∃ q, w' = w.drewN q) ?_ (fun e w' h => ⟨h.1, below_of_drew h.2⟩)
  go_enter Try.func29, Try.ntmps29
  go_wp2
  go_loopw [5] (fun i wr => ∃ k : Nat, k ≤ n ∧ i = .int .i64 k ∧ Hid (∃ q, wr = w.drewN q)) (fun i _ => n - (intOf i).toNat)
  case atStart => exact ⟨0, Nat.zero_le _, rfl, 0, rfl⟩
  case round =>
    obtain ⟨k, hk, rfl, hq⟩ := hrel
    obtain ⟨q, rfl⟩ := hq.out
    by_cases hlt : k < n
    · obtain ⟨ad, rfl, hbl, hc⟩ := hr.bool hlt
      obtain ⟨ad2, rfl, hbl2, hc2⟩ := hr2.bool hlt
      generalize xs.getD k false = y at *
      cases y <;> (
        go_wp2
        go_quiet (fail)
        go_wp2
        go_roundw
        case rel => exact ⟨k + 1, by omega, by go_num, _, rfl⟩
        case measure => simp [intOf]; omega)
    · go_wp2
      go_ret
      exact ⟨rfl, _, rfl⟩

set_option maxHeartbeats 400000 in
theorem markB (g n : Nat) (xs : List Bool) (w : World) (hB : Bk w g 4 (bv xs)) (hl : xs.length = n) (hn : n ≤ 1048576) :
    Calls Try.prog 30 #[.slice (some ⟨g, 0, none⟩) n n, .int .i64 1] w fun e w' => e = .returned (.int .i64 (1 + n : Nat)) ∧ w.grownBy w' (some g) := by
  have HB0 := hide hB
  have HL := hide hl
  clear hB hl
  go_enter Try.func30, Try.ntmps30
  go_wp2
  go_loopw [1, 5] (fun m i wr => ∃ (k : Nat) (ys : List Bool), k ≤ n ∧ i = .int .i64 k ∧ m = .int .i64 ((1 + k : Nat) : Int) ∧ Hid (ys.length = n) ∧ Bk wr g 4 (bv ys) ∧ Hid (w.grownBy wr (some g)))
    (fun _ i _ => n - (intOf i).toNat)
  case atStart => exact ⟨0, xs, Nat.zero_le _, rfl, rfl, HL, HB0.out, World.grownBy.refl _ _⟩
  case round =>
    obtain ⟨k, ys, hk, rfl, rfl, hy, hB, hb⟩ := hrel
    by_cases hlt : k < n
    · have hc := hB.bool (k := k) (by rw [hy.out]; exact hlt)
      have hf := hB.free k
      have hs := hB.setbb k true
      have hs2 := hB.setbb k false
      have HS := Lib.hid (fun x => hB.setbb k x)
      clear hs hs2
      have f3 : ((1 + k : Nat) : Int) = 1 + (k : Int) := by omega
      generalize hr : (((1 + k : Nat) : Int) % 3 == 0) = r
      have Hr := hide hr
      clear hr f3
      go_wp2
      go_roundw
      case rel => exact ⟨k + 1, ys.set k _, by omega, by go_num, by go_num, hide (by rw [List.length_set]; exact hy.out), HS.out _, hb.out.trans (grown_set _ ⟨g, k, none⟩ _)⟩
      case measure => simp [intOf]; omega
    · have hkn : k = n := by omega
      subst hkn
      go_wp2
      go_ret
      exact ⟨rfl, hb.out⟩
end Go.Proofs.Ytkbeelbklganaaa
