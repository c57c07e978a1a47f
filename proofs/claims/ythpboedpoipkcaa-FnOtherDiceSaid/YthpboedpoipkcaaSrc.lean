/- Contracts of the source of choices: l00From, next, pick. Conditions: at most 2^20 bytes and 2^40 choices. -/
import Derived.Test.YthpboedpoipkcaaBytes
import Derived.Test.YthpboedpoipkcaaNum
import Derived.Test.YthpboedpoipkcaaLists
import Derived.OneCell
import Derived.Deep.RegionHeld3
namespace Go.Proofs.Ythpboedpoipkcaa
open Go.ChangeShapes Go.WideShapes Go.ChangeAt Go.RowKit

/-- the source at block b: its bytes, its place, its seed -/
def SrcI (w : World) (b : Nat) (A : Option Addr) (n c : Nat) (k : Nat) : Prop := ∃ s : Int, Bk w b 97 [.slice A n c, .int .i64 (k : Int), .int .u64 s]
theorem SrcI.below {w w' : World} {b n c k : Nat} {A : Option Addr} {B : Nat} (h : SrcI w b A n c k) (hb : Below B w w') (hlt : b < B) : SrcI w' b A n c k := by
  obtain ⟨s, h⟩ := h
  exact ⟨s, h.below hb hlt⟩
theorem SrcI.lt {w : World} {b n c k : Nat} {A : Option Addr} (h : SrcI w b A n c k) : b < w.heap.size := h.choose_spec.lt
theorem SrcI.grown {w w' : World} {b n c k : Nat} {A : Option Addr} {row : Option Nat} (h : SrcI w b A n c k) (hb : w.grownBy w' row) (hg : some b ≠ row) : SrcI w' b A n c k := by
  obtain ⟨s, h⟩ := h
  exact ⟨s, h.grown hb hg⟩

set_option maxHeartbeats 400000 in
theorem srcFrom (A : Option Addr) (n c : Nat) (w : World) : Calls Try.prog 85 #[.slice A n c] w fun e w' => e = .returned (.pointer (some ⟨w.heap.size, 0, none⟩)) ∧ SrcI w' w.heap.size A n c 0 ∧ Below w.heap.size w w' := by
  go_enter Try.func85, Try.ntmps85
  go_wp2
  go_ret
  exact ⟨rfl, ⟨0, Bk.new w 97 [.slice A n c, .int .i64 0, .int .u64 0]⟩, (Below.refl _ _).alloc (Nat.le_refl _) _⟩

theorem Kept.setc (w : World) (b i : Nat) (u : Value) : Kept b (b + 1) w (w.setCell ⟨b, i, none⟩ u) := ⟨rfl, rfl, rfl, by rw [set_size]; exact Nat.le_refl _, fun k _ h => Below.heap_setCell w _ u k (by show k ≠ b; omega)⟩
theorem Kept.dr (lo hi : Nat) (w : World) (q : Nat) : Kept lo hi w (w.drewN q) := Kept.below (below_drewN (Below.refl _ _) q) (Nat.le_refl _)

theorem and255 (a : Int) : ∃ v : Nat, bits .and .u64 a 255 = (v : Int) ∧ v ≤ 255 := by
  have h2 : (BitVec.ofInt 64 255).toNat = 255 := by decide
  have hx : (BitVec.ofInt 64 a).toNat &&& 255 ≤ 255 := Nat.and_le_right
  refine ⟨(BitVec.ofInt 64 a).toNat &&& 255, ?_, hx⟩
  show IntKind.u64.wrap ((BitVec.ofInt 64 a &&& BitVec.ofInt 64 255).toNat : Int) = _
  rw [BitVec.toNat_and, h2, IntKind.wrap_u64]
  omega

set_option maxRecDepth 100000 in
set_option maxHeartbeats 1600000 in
theorem srcNext (b : Nat) (A : Option Addr) (n c k : Nat) (xs : List Int) (w : World) (hs : SrcI w b A n c k) (hr : RdU w A n xs) (hn : n ≤ 1048576) (hk : k ≤ 1099511627776) :
    Calls Try.prog 101 #[.pointer (some ⟨b, 0, none⟩)] w fun e w' => (∃ v : Nat, e = .returned (.int .i64 (v : Int)) ∧ v ≤ 255) ∧ SrcI w' b A n c (k + 1) ∧ Kept b (b + 1) w w' := by
  obtain ⟨s, hB⟩ := hs
  have c0 : w.cell? ⟨b, 0, none⟩ = some (.slice A n c) := (hB.cell 0).trans rfl
  have c1 : w.cell? ⟨b, 1, none⟩ = some (.int .i64 (k : Int)) := (hB.cell 1).trans rfl
  have c2 : w.cell? ⟨b, 2, none⟩ = some (.int .u64 s) := (hB.cell 2).trans rfl
  have f1 := hB.free 1
  have f2 := hB.free 2
  have e1 : IntKind.i64.wrap ((k : Int) + 1) = (k : Int) + 1 := IntWalk.i64_in _ (by omega)
  by_cases h : k < n
  · obtain ⟨ad, rfl, hbl, hc0, h0, h1⟩ := hr.at h
    generalize xs.getD k 0 = y at *
    obtain ⟨v, rfl⟩ : ∃ v : Nat, y = (v : Int) := ⟨y.toNat, by omega⟩
    have g1 : (0 : Int) ≤ (k : Int) := by omega
    have g2 : (k : Int) < (n : Int) := by omega
    have g3 : decide ((k : Int) < (n : Int)) = true := decide_eq_true g2
    have g4 : decide ((k : Int) + 1 ≤ (n : Int)) = true := decide_eq_true (by omega)
    have e2 : IntKind.i64.wrap (v : Int) = (v : Int) := IntWalk.i64_in _ (by omega)
    have B0 := hB
    have K0 := Kept.refl b (b + 1) w
    go_enter Try.func101, Try.ntmps101
    go_wp2
    go_quiet (fail)
    have B1 : Bk (w.drewN nq) b 97 [.slice (some ad) n c, .int .i64 (k : Int), .int .u64 s] := B0
    have K1 : Kept b (b + 1) w (w.drewN nq) := K0.trans (Kept.dr _ _ _ _)
    have hc1 : World.cell? (w.drewN nq) (ad.add k) = some (.int .u8 (v : Int)) := hc0
    generalize w.drewN nq = w1 at *
    have c0 : w1.cell? ⟨b, 0, none⟩ = some (.slice (some ad) n c) := (B1.cell 0).trans rfl
    have c1 : w1.cell? ⟨b, 1, none⟩ = some (.int .i64 (k : Int)) := (B1.cell 1).trans rfl
    have c2 : w1.cell? ⟨b, 2, none⟩ = some (.int .u64 s) := (B1.cell 2).trans rfl
    have f1 := B1.free 1
    have f2 := B1.free 2
    go_wp2
    go_quiet (fail)
    have B2 : Bk (w1.drewN nq) b 97 [.slice (some ad) n c, .int .i64 (k : Int), .int .u64 s] := B1
    have K2 : Kept b (b + 1) w (w1.drewN nq) := K1.trans (Kept.dr _ _ _ _)
    have hc2 : World.cell? (w1.drewN nq) (ad.add k) = some (.int .u8 (v : Int)) := hc1
    generalize w1.drewN nq = w2 at *
    have c0 : w2.cell? ⟨b, 0, none⟩ = some (.slice (some ad) n c) := (B2.cell 0).trans rfl
    have c1 : w2.cell? ⟨b, 1, none⟩ = some (.int .i64 (k : Int)) := (B2.cell 1).trans rfl
    have c2 : w2.cell? ⟨b, 2, none⟩ = some (.int .u64 s) := (B2.cell 2).trans rfl
    have f1 := B2.free 1
    have f2 := B2.free 2
    go_wp2
    have B3 := (B2.set 1 (.int .i64 ((k : Int) + 1))).set 2 (.int .u64 (IntKind.u64.wrap (IntKind.u64.wrap (IntKind.u64.wrap (s * 6364136223846793005) + (v : Int)) + 1442695040888963407)))
    have K3 := (K2.trans (Kept.setc w2 b 1 (.int .i64 ((k : Int) + 1)))).trans (Kept.setc _ b 2 (.int .u64 (IntKind.u64.wrap (IntKind.u64.wrap (IntKind.u64.wrap (s * 6364136223846793005) + (v : Int)) + 1442695040888963407))))
    generalize (w2.setCell ⟨b, 1, none⟩ (.int .i64 ((k : Int) + 1))).setCell ⟨b, 2, none⟩ (.int .u64 (IntKind.u64.wrap (IntKind.u64.wrap (IntKind.u64.wrap (s * 6364136223846793005) + (v : Int)) + 1442695040888963407))) = w3 at *
    have c0 : w3.cell? ⟨b, 0, none⟩ = some (.slice (some ad) n c) := (B3.cell 0).trans rfl
    have c1 : w3.cell? ⟨b, 1, none⟩ = some (.int .i64 ((k : Int) + 1)) := (B3.cell 1).trans rfl
    go_quiet (fail)
    go_wp2
    go_ret
    exact ⟨⟨v, rfl, by omega⟩, ⟨_, B3⟩, K3.trans (Kept.dr _ _ _ _)⟩
  · have g3 : decide ((k : Int) < (n : Int)) = false := decide_eq_false (by omega)
    have g4 : decide ((k : Int) + 1 ≤ (n : Int)) = false := decide_eq_false (by omega)
    have B0 := hB
    have K0 := Kept.refl b (b + 1) w
    go_enter Try.func101, Try.ntmps101
    go_wp2
    go_quiet (fail)
    have B1 : Bk (w.drewN nq) b 97 [.slice A n c, .int .i64 (k : Int), .int .u64 s] := B0
    have K1 : Kept b (b + 1) w (w.drewN nq) := K0.trans (Kept.dr _ _ _ _)
    have hc1 : True := trivial
    generalize w.drewN nq = w1 at *
    have c0 : w1.cell? ⟨b, 0, none⟩ = some (.slice A n c) := (B1.cell 0).trans rfl
    have c1 : w1.cell? ⟨b, 1, none⟩ = some (.int .i64 (k : Int)) := (B1.cell 1).trans rfl
    have c2 : w1.cell? ⟨b, 2, none⟩ = some (.int .u64 s) := (B1.cell 2).trans rfl
    have f1 := B1.free 1
    have f2 := B1.free 2
    go_wp2
    have B3 := (B1.set 1 (.int .i64 ((k : Int) + 1))).set 2 (.int .u64 (IntKind.u64.wrap (IntKind.u64.wrap (IntKind.u64.wrap (s * 6364136223846793005)) + 1442695040888963407)))
    have K3 := (K1.trans (Kept.setc w1 b 1 (.int .i64 ((k : Int) + 1)))).trans (Kept.setc _ b 2 (.int .u64 (IntKind.u64.wrap (IntKind.u64.wrap (IntKind.u64.wrap (s * 6364136223846793005)) + 1442695040888963407))))
    generalize IntKind.u64.wrap (IntKind.u64.wrap (IntKind.u64.wrap (s * 6364136223846793005)) + 1442695040888963407) = S at *
    generalize (w1.setCell ⟨b, 1, none⟩ (.int .i64 ((k : Int) + 1))).setCell ⟨b, 2, none⟩ (.int .u64 S) = w3 at *
    have c0 : w3.cell? ⟨b, 0, none⟩ = some (.slice A n c) := (B3.cell 0).trans rfl
    have c1 : w3.cell? ⟨b, 1, none⟩ = some (.int .i64 ((k : Int) + 1)) := (B3.cell 1).trans rfl
    have c2 : w3.cell? ⟨b, 2, none⟩ = some (.int .u64 S) := (B3.cell 2).trans rfl
    obtain ⟨v, hv, hv2⟩ := and255 (S / 1099511627776)
    have hw : wrap64 (v : Int) = (v : Int) := IntWalk.wrap64_in _ (by omega)
    go_quiet (fail)
    go_wp2
    go_ret
    exact ⟨⟨v, rfl, hv2⟩, ⟨_, B3⟩, K3.trans (Kept.dr _ _ _ _)⟩

set_option maxHeartbeats 800000 in
theorem srcPick (b : Nat) (A : Option Addr) (n c k m : Nat) (xs : List Int) (w : World) (hs : SrcI w b A n c k) (hr : RdU w A n xs) (hn : n ≤ 1048576) (hk : k ≤ 1099511627776) (hm : 2 ≤ m) (hm2 : m ≤ 200) :
    Calls Try.prog 95 #[.pointer (some ⟨b, 0, none⟩), .int .i64 (m : Int)] w fun e w' => (∃ v : Nat, e = .returned (.int .i64 (v : Int)) ∧ v < m) ∧ SrcI w' b A n c (k + 1) ∧ Kept b (b + 1) w w' := by
  have HN := Lib.hid (srcNext b A n c k xs w hs hr hn hk)
  have d1 : decide ((m : Int) ≤ 1) = false := decide_eq_false (by omega)
  have d2 : decide ((200 : Int) < (m : Int)) = false := decide_eq_false (by omega)
  have f5 : ¬ m = 0 := by omega
  have f6 : ¬ (m : Int) = 0 := by omega
  go_enter Try.func95, Try.ntmps95
  go_wp2_with fail
  refine HN.out.mono ?_
  rintro e w1 ⟨⟨v, rfl, hv⟩, hs1, hk1⟩
  obtain ⟨r, hrr⟩ : ∃ r, r = v % m := ⟨_, rfl⟩
  have e2 : Int.tmod (v : Int) (m : Int) = (r : Int) := by rw [hrr]; exact (Int.ofNat_tmod _ _).symm
  have hlt : r < m := by rw [hrr]; exact Nat.mod_lt _ (by omega)
  have e3 : (v : Int) % (m : Int) = (r : Int) := by rw [hrr]; simp
  clear hrr
  go_wp2
  go_ret
  exact ⟨⟨r, rfl, hlt⟩, hs1, hk1⟩
end Go.Proofs.Ythpboedpoipkcaa
