/- Contract of the reference's source of choices: a word drawn from bytes. Conditions: what is stated. -/
import Derived.Test.YtpfaefflbjpllaaBytes
import Derived.Test.YtpfaefflbjpllaaVal
import Derived.Test.YtpfaefflbjpllaaR8
import Derived.Laws.BitsAllLaws
import Derived.Lib.QuoteBits
import Derived.Lib.RabinKarpLaws
namespace Go.Proofs.Ytpfaefflbjpllaa
open Go.ChangeShapes Go.WideShapes Go.ChangeAt Go.RowKit

theorem and255 (s : Int) : ∃ v : Nat, v ≤ 255 ∧ bits BinOp.and IntKind.u64 s 255 = (v : Int) := by
  refine ⟨(BitVec.ofInt 64 s &&& BitVec.ofInt 64 255).toNat, ?_, ?_⟩
  · rw [BitVec.toNat_and]
    have : (BitVec.ofInt 64 255).toNat = 255 := by decide
    rw [this]
    exact Nat.and_le_right
  · show IntKind.u64.wrap ((BitVec.ofInt 64 s &&& BitVec.ofInt 64 255).toNat : Int) = _
    generalize (BitVec.ofInt 64 s &&& BitVec.ofInt 64 255) = b
    have := b.isLt
    unfold IntKind.wrap
    simp [IntKind.signed, IntKind.bits]
    omega
theorem grownSet (w : World) (p : Addr) (u : Value) : w.grownBy (w.setCell p u) (some p.block) :=
  ⟨rfl, rfl, rfl, by rw [set_size]; exact Nat.le_refl _, fun i _ h => Below.heap_setCell w p u i (fun e => h (by rw [e]))⟩
theorem grownDrewN {w w' : World} {r : Option Nat} (h : w.grownBy w' r) (q : Nat) : w.grownBy (w'.drewN q) r := ⟨h.os, h.tape, h.output, h.size, h.block⟩
/-- a source in block B: its bytes, how far it has come, its seed -/
abbrev srcC (A : Option Addr) (n c at_ : Nat) (sd : Int) : List Value := [.slice A n c, .int .i64 (at_ : Int), .int .u64 sd]

theorem src_stored {A : Option Addr} {n c B at_ : Nat} {sd : Int} {w : World} (hS : Bk w B 66 (srcC A n c at_ sd)) (Q : Nat) (sd2 : Int) :
    ∃ w3, w3 = ((w.drewN Q).setCell ⟨B, 1, none⟩ (.int .i64 ((at_ : Int) + 1))).setCell ⟨B, 2, none⟩ (.int .u64 sd2) ∧ Bk w3 B 66 (srcC A n c (at_ + 1) sd2) ∧ w.grownBy w3 (some B) := by
  refine ⟨_, rfl, ?_, ?_⟩
  · have := ((hS.drewN Q).set 1 (.int .i64 ((at_ : Int) + 1))).set 2 (.int .u64 sd2)
    exact this
  · exact ((grownDrewN (World.grownBy.refl w _) Q).trans (grownSet _ ⟨B, 1, none⟩ _)).trans (grownSet _ ⟨B, 2, none⟩ _)

set_option maxHeartbeats 1600000 in
theorem nNext (A : Option Addr) (n c B at_ : Nat) (sd : Int) (xs : List Int) (w : World) (hS : Bk w B 66 (srcC A n c at_ sd)) (hr : RdU w A n xs) (hn : n ≤ 1048576) (hat : at_ ≤ 1048576) :
    Calls Try.prog 67 #[.pointer (some ⟨B, 0, none⟩)] w fun e w' => ∃ (v : Nat) (sd' : Int), e = .returned (.int .i64 (v : Int)) ∧ v ≤ 255 ∧ Bk w' B 66 (srcC A n c (at_ + 1) sd') ∧ w.grownBy w' (some B) := by
  have c0 : w.cell? ⟨B, 0, none⟩ = some (.slice A n c) := (hS.cell 0).trans rfl
  have c1 : w.cell? ⟨B, 1, none⟩ = some (.int .i64 (at_ : Int)) := (hS.cell 1).trans rfl
  have c2 : w.cell? ⟨B, 2, none⟩ = some (.int .u64 sd) := (hS.cell 2).trans rfl
  have f1 := hS.free 1
  have f2 := hS.free 2
  have HSt := Lib.hid (fun Q sd2 => src_stored hS Q sd2)
  clear hS
  by_cases hlt : at_ < n
  · obtain ⟨ad, rfl, hbl, hc, h0, h1⟩ := hr.at hlt
    generalize xs.getD at_ 0 = y at *
    obtain ⟨b, rfl⟩ : ∃ b : Nat, y = (b : Int) := ⟨y.toNat, by omega⟩
    have e1 : IntKind.i64.wrap (b : Int) = (b : Int) := IntWalk.i64_in _ (by omega)
    have d1 : decide ((at_ : Int) < (n : Int)) = true := decide_eq_true (by omega)
    have d2 : decide ((at_ : Int) + 1 ≤ (n : Int)) = true := decide_eq_true (by omega)
    have d3 : decide (at_ + 1 ≤ n) = true := decide_eq_true (by omega)
    have hb255 : b ≤ 255 := by omega
    clear hr
    go_enter Try.func67, Try.ntmps67
    go_wp2
    go_quiet (fail)
    obtain ⟨q1, rfl⟩ : ∃ q1 : Nat, q1 = nq := ⟨_, rfl⟩
    go_wp2
    go_quiet (fail)
    obtain ⟨q2, rfl⟩ : ∃ q2 : Nat, q2 = nq := ⟨_, rfl⟩
    go_wp2
    generalize IntKind.u64.wrap (IntKind.u64.wrap (IntKind.u64.wrap (sd * 6364136223846793005) + ↑b) + 1442695040888963407) = sd2
    obtain ⟨w3, hw3, hB3, hg3⟩ := HSt.out (q1 + q2) sd2
    rw [← hw3]
    clear hw3 c0 c1 c2 f1 f2 hc
    have c0 : w3.cell? ⟨B, 0, none⟩ = some (.slice (some ad) n c) := (hB3.cell 0).trans rfl
    have c1 : w3.cell? ⟨B, 1, none⟩ = some (.int .i64 ((at_ : Int) + 1)) := (hB3.cell 1).trans rfl
    have c2 : w3.cell? ⟨B, 2, none⟩ = some (.int .u64 sd2) := (hB3.cell 2).trans rfl
    have HB3 := hide hB3
    clear hB3
    go_quiet (fail)
    go_wp2
    go_ret
    exact ⟨b, sd2, rfl, hb255, HB3.out.drewN _, grownDrewN hg3 _⟩
  · have d1 : decide ((at_ : Int) < (n : Int)) = false := decide_eq_false (by omega)
    have d2 : decide ((at_ : Int) + 1 ≤ (n : Int)) = false := decide_eq_false (by omega)
    have d3 : decide (at_ + 1 ≤ n) = false := decide_eq_false (by omega)
    clear hr
    go_enter Try.func67, Try.ntmps67
    go_wp2
    go_quiet (fail)
    obtain ⟨q1, rfl⟩ : ∃ q1 : Nat, q1 = nq := ⟨_, rfl⟩
    go_wp2
    generalize IntKind.u64.wrap (IntKind.u64.wrap (IntKind.u64.wrap (sd * 6364136223846793005)) + 1442695040888963407) = sd2
    obtain ⟨w3, hw3, hB3, hg3⟩ := HSt.out q1 sd2
    rw [← hw3]
    clear hw3 c0 c1 c2 f1 f2
    have c0 : w3.cell? ⟨B, 0, none⟩ = some (.slice A n c) := (hB3.cell 0).trans rfl
    have c1 : w3.cell? ⟨B, 1, none⟩ = some (.int .i64 ((at_ : Int) + 1)) := (hB3.cell 1).trans rfl
    have c2 : w3.cell? ⟨B, 2, none⟩ = some (.int .u64 sd2) := (hB3.cell 2).trans rfl
    have HB3 := hide hB3
    clear hB3
    go_quiet (fail)
    go_wp2
    obtain ⟨v, hv, hv2⟩ := and255 (sd2 / 1099511627776)
    have e2 : wrap64 (v : Int) = (v : Int) := IntWalk.wrap64_in _ ⟨by omega, by omega⟩
    rw [hv2, e2]
    go_ret
    exact ⟨v, sd2, rfl, hv, HB3.out.drewN _, grownDrewN hg3 _⟩
set_option maxHeartbeats 400000 in
theorem nPick (A : Option Addr) (n c B at_ m : Nat) (sd : Int) (xs : List Int) (w : World) (hS : Bk w B 66 (srcC A n c at_ sd)) (hr : RdU w A n xs) (hn : n ≤ 1048576) (hat : at_ ≤ 1048576) (hm : 2 ≤ m) (hm2 : m ≤ 200) :
    Calls Try.prog 60 #[.pointer (some ⟨B, 0, none⟩), .int .i64 m] w fun e w' => ∃ (v : Nat) (sd' : Int), e = .returned (.int .i64 (v : Int)) ∧ v < m ∧ Bk w' B 66 (srcC A n c (at_ + 1) sd') ∧ w.grownBy w' (some B) := by
  have HN := Lib.hid (nNext A n c B at_ sd xs w hS hr hn hat)
  have d1 : decide ((m : Int) ≤ 1) = false := decide_eq_false (by omega)
  have d2 : decide ((200 : Int) < (m : Int)) = false := decide_eq_false (by omega)
  have d3 : decide ((m : Int) > 200) = false := decide_eq_false (by omega)
  have d4 : decide (m ≤ 1) = false := decide_eq_false (by omega)
  have d5 : decide (200 < m) = false := decide_eq_false (by omega)
  have hm0 : ¬ m = 0 := by omega
  clear hS hr
  go_enter Try.func60, Try.ntmps60
  go_wp2_with fail
  refine HN.out.mono ?_
  rintro e w' ⟨b, sd', rfl, hb, hB, hg⟩
  obtain ⟨r, hrr⟩ : ∃ r, r = b % m := ⟨_, rfl⟩
  have hlt : r < m := by rw [hrr]; exact Nat.mod_lt _ (by omega)
  have e2 : Int.tmod (b : Int) (m : Int) = (r : Int) := by rw [hrr]; exact (Int.ofNat_tmod _ _).symm
  have e3 : (b : Int) % (m : Int) = (r : Int) := by rw [hrr]; simp
  clear hrr
  go_wp2
  go_ret
  exact ⟨r, sd', rfl, hlt, hB, hg⟩

/-- numbers from nought to below m -/
def InM (m : Nat) (ws : List Int) : Prop := ∀ x ∈ ws, 0 ≤ x ∧ x < (m : Int)
theorem InM.app {m v : Nat} {ws : List Int} (h : InM m ws) (hv : v < m) : InM m (ws ++ [(v : Int)]) := fun x hx => by
  rw [List.mem_append, List.mem_singleton] at hx
  rcases hx with hx | rfl
  · exact h x hx
  · omega
theorem sFrom (A : Option Addr) (n c : Nat) (w : World) :
    Calls Try.prog 59 #[.slice A n c] w fun e w' => e = .returned (.pointer (some ⟨w.heap.size, 0, none⟩)) ∧ Bk w' w.heap.size 66 (srcC A n c 0 0) ∧ Below w.heap.size w w' := by
  have HB0 := Lib.hid (Bk.new w 66 (srcC A n c 0 0))
  go_enter Try.func59, Try.ntmps59
  go_wp2
  go_ret
  exact ⟨rfl, HB0.out, (Below.refl _ _).alloc (Nat.le_refl _) _⟩
set_option maxHeartbeats 800000 in
theorem sBelow (A : Option Addr) (n c N m : Nat) (xs : List Int) (w : World) (hr : RdU w A n xs) (hn : n ≤ 1048576) (hN : N ≤ 1000) (hm : 2 ≤ m) (hm2 : m ≤ 200) :
    Calls Try.prog 35 #[.slice A n c, .int .i64 N, .int .i64 m] w fun e w' => ∃ r ws, e = .returned r ∧ Own w' w.heap.size w'.heap.size r ws ∧ ws.length = N ∧ InM m ws ∧ Below w.heap.size w w' := by
  have HP := Lib.hid (fun B at_ sd W h h' hat => nPick A n c B at_ m sd xs W h h' hn hat hm hm2)
  have HR := hide hr
  have HF := Lib.hid (sFrom A n c w)
  clear hr
  go_enter Try.func35, Try.ntmps35
  go_wp2_with fail
  refine HF.out.mono ?_
  rintro e w1 ⟨rfl, hB, hb⟩
  have hlt := hB.lt
  go_wp2
  go_loopw [1, 8] (fun i r wr => ∃ (k : Nat) (sd : Int) (ws : List Int), i = .int .i64 (k : Int) ∧ k ≤ N ∧ Hid (ws.length + k = N) ∧ OwnL wr w1.heap.size r ws ∧ Hid (InM m ws) ∧ Bk wr w.heap.size 66 (srcC A n c ws.length sd) ∧ Below w.heap.size w wr ∧ w1.heap.size ≤ wr.heap.size) (fun i _ _ => (intOf i).toNat)
  case atStart => exact ⟨N, 0, [], rfl, Nat.le_refl _, hide (by simp), OwnL.empty _ _ rfl (Nat.le_refl _), hide (fun x h => by cases h), hB.alloc _, hb.alloc (Nat.le_of_lt hlt) _, ((Below.refl w1.heap.size w1).alloc (Nat.le_refl _) _).size⟩
  case round =>
    obtain ⟨k, sd, ws, rfl, hkN, hl, ho, hin, hBk, hbw, hz⟩ := hrel
    by_cases hk : 0 < k
    · have hl2 : ws.length ≤ 1048576 := by have := hl.out; omega
      go_wp2_with fail
      refine (HP.out _ _ _ _ hBk (HR.out.below hbw) hl2).mono ?_
      rintro e w3 ⟨v, sd', rfl, hv, hB3, hg3⟩
      have ho3 := (ho.own.grown hg3 (fun g e => by injection e with e; omega)).l
      have hz3 : w1.heap.size ≤ w3.heap.size := Nat.le_trans hz hg3.size
      have hb3 := hbw.grown hg3 (by omega) (fun j e => by injection e with e; omega)
      go_wp2_with (at_builtin; refine app1 ho3 hl2 hz3 rfl rfl rfl rfl ?_; intro v4 w4 ho4 hg4)
      go_roundw
      case rel => exact ⟨k - 1, sd', ws ++ [(v : Int)], by go_num, by omega, hide (by have := hl.out; simp; omega), ho4, hide (hin.out.app hv), by rw [List.length_append]; exact hB3.grown hg4 (fun e => by have := ho3.lt _ e.symm; omega), hb3.grown hg4 (by omega) (fun j e => by have := ho3.lt _ e; omega), Nat.le_trans hz3 hg4.size⟩
      case measure => simp [intOf]; omega
    · obtain rfl : k = 0 := by omega
      go_wp2
      go_ret
      exact ⟨_, ws, rfl, (ho.own.lo (by omega)), by have := hl.out; omega, hin.out, hbw⟩
end Go.Proofs.Ytpfaefflbjpllaa
