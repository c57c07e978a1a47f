/- Words for slices of pairs (tiles), and contracts of the laws' helpers on them. Conditions: lengths at most 2^20. -/
import Derived.Test.YtkbeelbklganaaaVal
import Derived.Test.YtkbeelbklganaaaNum
import Derived.Laws.StructEq
import Derived.Deep.RegionHeld3
namespace Go.Proofs.Ytkbeelbklganaaa
open Go.ChangeShapes Go.WideShapes Go.ChangeAt Go.RowKit

/-- The slice value with address A and length n reads, in w, as the pairs ts. -/
def RdT (w : World) (A : Option Addr) (n : Nat) (ts : List (Int × Int)) : Prop :=
  ts.length = n ∧ (0 < n → ∃ ad, A = some ad ∧ ad.block < w.heap.size ∧ ∀ k, k < n → w.cell? (ad.add (k * 2)) = some (.int .i64 (ts.getD k (0, 0)).1) ∧ w.cell? (ad.add (k * 2 + 1)) = some (.int .i64 (ts.getD k (0, 0)).2))
def RVT (w : World) (v : Value) (ts : List (Int × Int)) : Prop := ∃ A c, v = .slice A ts.length c ∧ RdT w A ts.length ts ∧ ts.length ≤ c
section
variable {w w' : World} {n : Nat} {A : Option Addr} {ts : List (Int × Int)} {v : Value}
theorem RdT.len (h : RdT w A n ts) : ts.length = n := h.1
theorem RdT.below (h : RdT w A n ts) (hb : Below w.heap.size w w') : RdT w' A n ts :=
  ⟨h.1, fun hn => by
    obtain ⟨ad, e, hl, hc⟩ := h.2 hn
    refine ⟨ad, e, Nat.lt_of_lt_of_le hl hb.size, fun k hk => ?_⟩
    rw [hb.cell (by rw [add_block]; exact hl), hb.cell (by rw [add_block]; exact hl)]
    exact hc k hk⟩
theorem RdT.drewN (h : RdT w A n ts) (q : Nat) : RdT (w.drewN q) A n ts := h
theorem RdT.at (h : RdT w A n ts) {k : Nat} (hk : k < n) : ∃ ad, A = some ad ∧ ad.block < w.heap.size ∧ w.cell? (ad.add (k * 2)) = some (.int .i64 (ts.getD k (0, 0)).1) ∧ w.cell? (ad.add (k * 2 + 1)) = some (.int .i64 (ts.getD k (0, 0)).2) := by
  obtain ⟨ad, e, hl, hc⟩ := h.2 (by omega)
  exact ⟨ad, e, hl, hc k hk⟩
theorem RVT.below (h : RVT w v ts) (hb : Below w.heap.size w w') : RVT w' v ts := by
  obtain ⟨A, c, e, hr, hc⟩ := h
  exact ⟨A, c, e, hr.below hb, hc⟩
theorem RVT.mk {c : Nat} (hr : RdT w A n ts) (hc : n ≤ c) : RVT w (.slice A n c) ts := by
  have := hr.len
  subst this
  exact ⟨A, c, rfl, hr, hc⟩
end

set_option maxHeartbeats 400000 in
theorem toT (a b : Int) (w : World) : Calls Try.prog 42 #[.agg #[.int .i64 a, .int .i64 b]] w fun e w' => e = .returned (.agg #[.int .i64 a, .int .i64 b]) ∧ Below w.heap.size w w' := by
  go_enter Try.func42, Try.ntmps42
  go_wp2
  exact bodyPost_ret (v := .agg #[.int .i64 a, .int .i64 b]) (by simp [results, Try.results42, go_sem]) rfl ⟨rfl, (((Below.refl _ _).alloc (Nat.le_refl _) _).alloc (by simp) _).alloc (by simp; omega) _⟩
set_option maxHeartbeats 400000 in
theorem eqT1 (a b : Int) (w : World) : Calls Try.prog 44 #[.agg #[.int .i64 a, .int .i64 b], .agg #[.int .i64 a, .int .i64 b]] w fun e w' => e = .returned (.bool true) ∧ Below w.heap.size w w' := by
  go_enter Try.func44, Try.ntmps44
  go_wp2
  go_ret
  exact ⟨rfl, ((Below.refl _ _).alloc (Nat.le_refl _) _).alloc (by simp) _⟩

theorem add_one' (ad : Addr) (k : Nat) : ad.add (k + 1) = ⟨(ad.add k).block, (ad.add k).off + 1, none⟩ := by rw [← add_add']; rfl
theorem own_bk {w : World} {base size n g : Nat} {t : TypeId} {xs : List Value} (h : w.ownsRow base t size (.slice (some ⟨g, 0, none⟩) n n) n xs) : ∃ cs, Bk w g t cs ∧ cs.length = n * size := by
  rcases h.2 with ⟨hv, _⟩ | ⟨g', cap, cur, hv, _, hg, _, _, hsz, _⟩
  · cases hv
  · injection hv with e1 _ e3
    injection e1 with e1
    injection e1 with e1
    subst e1 e3
    exact ⟨cur.toList, hg, by simpa using hsz⟩
theorem info_tile : (Try.prog.info? 52).map (fun i => (i.zero, i.size, i.bytes)) = some (some (.agg #[.int .i64 0, .int .i64 0]), 2, 16) := by kernel_rfl

set_option maxHeartbeats 400000 in
theorem toTS (A : Option Addr) (n c : Nat) (ts : List (Int × Int)) (w : World) (hr : RdT w A n ts) (hn : n ≤ 1048576) :
    Calls Try.prog 17 #[.slice A n c] w fun e w' => ∃ v, e = .returned v ∧ RVT w' v ts ∧ Below w.heap.size w w' := by
  obtain ⟨i0, hi, hz0, hz1, hz2⟩ := info_parts info_tile
  have Hlen := hide hr.len
  go_enter Try.func17, Try.ntmps17
  go_wp2_with (at_make; refine wpList_make_full _ rfl _ _ 29 rfl w.heap.size 52 i0 (.agg #[.int .i64 0, .int .i64 0]) 2 Try.underlying29 hi hz0 hz1 _ _ _ _ n rfl rfl rfl rfl ?b2 ?b3 (Nat.le_refl _) ?_)
  case b2 => rw [hz2]; omega
  case b3 => unfold maxLen; omega
  intro w0 hown0 hgrow0
  obtain ⟨cs0, hB0, hl0⟩ := own_bk hown0
  have hb0 : Below w.heap.size w w0 := (Below.refl _ _).grown hgrow0 (Nat.le_refl _) (fun k h => by cases h)
  clear hown0 hgrow0
  go_wp2
  go_loopw [4] (fun i wr => ∃ (k : Nat) (cs : List Value), k ≤ n ∧ i = .int .i64 k ∧ Bk wr w.heap.size 52 cs ∧ Hid (cs.length = n * 2) ∧ Hid (∀ j, j < k → cs[j * 2]? = some (.int .i64 (ts.getD j (0, 0)).1) ∧ cs[j * 2 + 1]? = some (.int .i64 (ts.getD j (0, 0)).2)) ∧ Below w.heap.size w wr)
    (fun i _ => n - (intOf i).toNat)
  case atStart => exact ⟨0, cs0, Nat.zero_le _, rfl, hB0, hide hl0, hide fun j hj => absurd hj (by omega), hb0⟩
  case round =>
    clear hB0 hb0 hl0
    obtain ⟨k, cs, hk, rfl, hB, hl, hfa, hb⟩ := hrel
    by_cases hlt : k < n
    · obtain ⟨ad, rfl, hbl, hc1, hc2⟩ := (hr.below hb).at hlt
      have hc2' : wr.cell? ⟨(ad.add (k * 2)).block, (ad.add (k * 2)).off + 1, none⟩ = some (.int .i64 (ts.getD k (0, 0)).2) := by rw [← add_one']; exact hc2
      generalize hp : ts.getD k (0, 0) = p at *
      obtain ⟨a, b⟩ := p
      have Hp := hide hp
      simp only at hc1 hc2 hc2'
      clear hp
      go_wp2_with (go_at_call 42; refine (toT a b _).mono ?_; rintro e w2 ⟨rfl, hb2⟩; have hB2 := hB.below hb2 hB.lt; have d1 : w2.cell? ⟨w.heap.size, k * 2, none⟩ = some (cs[k * 2]'(by rw [hl.out]; omega)) := (by rw [hB2.cell]; exact List.getElem?_eq_getElem _); have d2 : w2.cell? ⟨w.heap.size, k * 2 + 1, none⟩ = some (cs[k * 2 + 1]'(by rw [hl.out]; omega)) := (by rw [hB2.cell]; exact List.getElem?_eq_getElem _); have f1 := hB2.free (k * 2); have f2 := hB2.free (k * 2 + 1))
      go_roundw
      case measure => simp [intOf]; omega
      case rel =>
        refine ⟨k + 1, (cs.set (k * 2) (.int .i64 a)).set (k * 2 + 1) (.int .i64 b), by omega, by go_num, (hB2.set _ _).set _ _, hide (by simp [hl.out]), hide fun j hj => ?_, ((hb.trans (hb2.mono hb.size)).setCell (p := ⟨w.heap.size, k * 2, none⟩) (Nat.le_refl _) _).setCell (p := ⟨w.heap.size, k * 2 + 1, none⟩) (Nat.le_refl _) _⟩
        have hlc := hl.out
        by_cases e : j = k
        · subst e
          rw [Hp.out, List.getElem?_set_ne (by omega), List.getElem?_set_self (by omega), List.getElem?_set_self (by simp; omega)]
          exact ⟨rfl, rfl⟩
        · rw [List.getElem?_set_ne (by omega), List.getElem?_set_ne (by omega), List.getElem?_set_ne (by omega), List.getElem?_set_ne (by omega)]
          exact hfa.out j (by omega)
    · have hkn : k = n := by omega
      subst hkn
      go_wp2
      go_ret
      refine ⟨_, rfl, RVT.mk ⟨Hlen.out, fun _ => ⟨⟨w.heap.size, 0, none⟩, rfl, hB.lt, fun j hj => ?_⟩⟩ (Nat.le_refl _), hb⟩
      rw [Addr.add_lit, Addr.add_lit, hB.cell, hB.cell, Nat.zero_add, Nat.zero_add]
      exact hfa.out j hj

set_option maxRecDepth 100000 in
set_option maxHeartbeats 800000 in
theorem eqTS (A B : Option Addr) (n c d : Nat) (ts : List (Int × Int)) (w : World) (hr : RdT w A n ts) (hr2 : RdT w B n ts) (hn : n ≤ 1048576) :
    Calls Try.prog 19 #[.slice A n c, .slice B n d] w fun e w' => e = .returned (.bool true) ∧ Below w.heap.size w w' := by
  go_enter Try.func19, Try.ntmps19
  go_wp2
  go_loopw [5] (fun i wr => ∃ (k : Nat), k ≤ n ∧ i = .int .i64 k ∧ Below w.heap.size w wr) (fun i _ => n - (intOf i).toNat)
  case atStart => exact ⟨0, Nat.zero_le _, rfl, Below.refl _ _⟩
  case round =>
    obtain ⟨k, hk, rfl, hb⟩ := hrel
    by_cases hlt : k < n
    · obtain ⟨ad, rfl, hbl, hc1, hc2⟩ := (hr.below hb).at hlt
      rw [add_one'] at hc2
      obtain ⟨bd, rfl, hbl2, hd1, hd2⟩ := (hr2.below hb).at hlt
      rw [add_one'] at hd2
      generalize ts.getD k (0, 0) = p at *
      obtain ⟨a, b⟩ := p
      simp only at hc1 hc2 hd1 hd2
      have f1 : (0 : Int) ≤ (k : Int) := by omega
      have f2 : (k : Int) < (n : Int) := by omega
      go_wp2
      go_region_held3 (fun w' => w'.cell? (ad.add (k * 2)) = some (.int .i64 a) ∧ w'.cell? ⟨(ad.add (k * 2)).block, (ad.add (k * 2)).off + 1, none⟩ = some (.int .i64 b) ∧ w'.cell? (bd.add (k * 2)) = some (.int .i64 a) ∧ w'.cell? ⟨(bd.add (k * 2)).block, (bd.add (k * 2)).off + 1, none⟩ = some (.int .i64 b))
        (first
          | exact ⟨hc1, hc2, hd1, hd2⟩
          | go_keep
          | (go_split_ands; refine ⟨?_, ?_, ?_, ?_⟩ <;> (rw [hb2.cell (by first | exact hbl | exact hbl2 | (show (Addr.add _ _).block < _; rw [add_block]; first | exact hbl | exact hbl2))]; assumption)))
        ((first | (go_at_call 44; refine (eqT1 a b _).mono ?_; rintro e w2 ⟨rfl, hb2⟩)))
      go_wp2
      go_roundw
      case measure => simp [intOf]; omega
      case rel => exact ⟨k + 1, by omega, by go_num, (below_drewN hb 1 : Below w.heap.size w wr.drew).trans (hb2.mono hb.size)⟩
    · have hkn : k = n := by omega
      subst hkn
      go_wp2
      go_ret
      exact ⟨rfl, hb⟩
end Go.Proofs.Ytkbeelbklganaaa
