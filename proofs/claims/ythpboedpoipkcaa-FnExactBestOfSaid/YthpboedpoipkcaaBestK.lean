/- spec.l05Ways, and the spec's failing answers. Conditions: lengths at most 2^20. -/
import Derived.Test.YthpboedpoipkcaaBestV
import Derived.Deep.AppendLies
import Derived.Deep.RegionHeld3
namespace Go.Proofs.Ythpboedpoipkcaa
open Go.ChangeShapes Go.WideShapes Go.ChangeAt Go.RowKit

theorem OwnL.alloc {w : World} {lo : Nat} {v : Value} {xs : List Int} (h : OwnL w lo v xs) (o : Obj) : OwnL (w.alloc o) lo v xs := World.ownsRow.alloc h o
/-- 'append(out, y)' of one integer at a step of a region that draws -/
theorem step_app1 {w : World} {ops : Array Oper} {o : Oper} {a : Act} {K : Act → World → Prop} {Q : Exit → Act → World → Prop} {E : Prop} {lo g : Nat} {v : Value} {xs : List Int} {y : Int}
    (hgd : o.guard = none) {s x : Operand}
    (ho : o.op = .call { callee := .builtin .append, args := #[s, x], argTypes := #[22, 22] })
    (hs : a.eval s = v) (hx : a.eval x = .slice (some ⟨g, 0, none⟩) 1 1)
    (hown : OwnL w lo v xs) (hc : w.cell? ⟨g, 0, none⟩ = some (.int .i64 y)) (hn : xs.length ≤ 1048576) (hlo : lo ≤ w.heap.size)
    (h : ∀ v' w', OwnL w' lo v' (xs ++ [y]) → w.grownBy w' v.ownBlock → K (a.put o.dst v') w') :
    if Region.wanted o (yielded ops a.tmps) = true then Oper.wp Try.prog o a w K Q else E := by
  obtain ⟨i0, hi, hz0, hz1, hz2⟩ := info_parts info_i64
  refine step_append_lies w hgd s x 22 ho lo 2 i0 (.int .i64 0) 1 8 Try.underlying22 hi hz0 hz1 hz2 rfl (by decide) v xs.length (iv xs) hs hown ⟨g, 0, none⟩ 1 1 [.int .i64 y] hx rfl ?_ ?_ (by decide) ?_ ?_ hlo _ rfl ?_
  · intro j u hj
    match j, hj with
    | 0, hj =>
      simp at hj
      subst hj
      rw [Addr.add_lit]
      exact hc
  · intro u hu
    simp at hu
    subst hu
    rfl
  · unfold maxLen; omega
  · omega
  · intro g' cap w1 hown1 hgrow _ _
    refine h _ w1 ?_ hgrow
    have e : (xs ++ [y]).length = xs.length + 1 := by simp
    have e2 : iv xs ++ [.int .i64 y] = iv (xs ++ [y]) := by simp [iv]
    unfold OwnL
    rw [e, ← e2]
    exact hown1

set_option maxRecDepth 100000 in
set_option maxHeartbeats 1600000 in
theorem sWays (A : Option Addr) (n c : Nat) (xss : List (List Int)) (w : World) (hr : RdR w A n xss) (hn6 : n ≤ 6) (h12 : ∀ k, k < n → (xss.getD k []).length ≤ 12) :
    Calls Try.prog 87 #[.slice A n c] w fun e w' => e = .returned (.int .i64 ((waysL xss : Nat) : Int)) ∧ w = w' := by
  have hl := hr.len
  have Hwst : Hid (∀ i, i < n → waysL (xss.take (i + 1)) = waysL (xss.take i) * (xss.getD i []).length) := hide fun i hi => waysL_step xss (by omega)
  have Hwbd : Hid (∀ i, i ≤ n → waysL (xss.take i) ≤ 2985984) := hide fun i hi => waysL_big (fun j hj => h12 j (by omega)) (by omega) i (by omega)
  have HWf : Hid (waysL (xss.take n) = waysL xss) := hide (by rw [List.take_of_length_le (by omega)])
  have HR := hide hr
  clear hr hl h12
  go_enter Try.func87, Try.ntmps87
  go_wp2
  go_loop [3, 4, 7] (fun y _ i => ∃ k : Nat, k ≤ n ∧ i = .int .i64 k ∧ y = .int .i64 ((waysL (xss.take k) : Nat) : Int)) (fun _ _ i => n - (intOf i).toNat)
  case atStart => exact ⟨0, Nat.zero_le _, rfl, rfl⟩
  case round =>
    obtain ⟨k, hk, rfl, rfl⟩ := hrel
    by_cases hlt : k < n
    · obtain ⟨ad, B, d, rfl, hbl, hc, hrr, hdd⟩ := HR.out.at hlt
      have Hs := hide (Hwst.out k hlt)
      have b1 := Hwbd.out k hk
      have b2 := Hwbd.out (k + 1) (by omega)
      rw [Hs.out] at b2
      clear hrr
      generalize waysL (xss.take k) = y at *
      generalize (xss.getD k []).length = m at *
      have Hm := hide (Int.natCast_mul y m)
      have e1 : wrap64 ((y : Int) * (m : Int)) = (y : Int) * (m : Int) := IntWalk.wrap64_in _ (by rw [← Hm.out]; omega)
      go_wp2
      go_round
      case rel => exact ⟨k + 1, by omega, by go_num, by rw [Hs.out, Hm.out]⟩
      case measure => simp [intOf]; omega
    · have hkn : k = n := by omega
      subst hkn
      rw [HWf.out]
      go_wp2
      go_ret
      exact ⟨rfl, rfl⟩

set_option maxRecDepth 100000 in
set_option maxHeartbeats 1600000 in
theorem sBestF (A : Option Addr) (n c : Nat) (xss : List (List Int)) (kp : Int) (w : World) (hr : RdR w A n xss) (hn : n ≤ 1048576) (hrow : ∀ k, k < n → (xss.getD k []).length ≤ 1048576) (hbad : boOk xss kp = false) :
    Calls Try.prog 52 #[.slice A n c, .int .i64 kp] w fun e w' => e = .returned (.tuple #[.slice none 0 0, .int .i64 0, .bool false]) ∧ Below w.heap.size w w' := by
  have H := Lib.hid (sDice A n c xss _ hr hn hrow)
  have HK := Lib.hid (fun V => sIn kp 1 (n : Int) V)
  have hl := hr.len
  cases hD : diceB xss with
  | false =>
    rw [hD] at H
    clear hr hrow
    go_enter Try.func52, Try.ntmps52
    go_wp2_with (go_at_call 65; refine H.out.mono ?_; rintro e w2 ⟨rfl, q, rfl⟩)
    go_ret3
    exact ⟨rfl, below_drewN (Below.refl _ _) _⟩
  | true =>
    rw [hD] at H
    unfold boOk at hbad
    rw [hD, Bool.true_and, hl] at hbad
    obtain ⟨hn1, hn6, hdie⟩ := diceB_of hD
    cases hK : inB kp 1 (n : Int) with
    | false =>
      rw [hK] at HK
      clear hr hrow
      go_enter Try.func52, Try.ntmps52
      go_wp2_with (first | (go_at_call 65; refine H.out.mono ?_; rintro e w2 ⟨rfl, q, rfl⟩) | (go_at_call 60; with_reducible refine (HK.out _).mono ?_; rintro e w' ⟨rfl, rfl⟩))
      go_ret3
      exact ⟨rfl, below_drewN (Below.refl _ _) _⟩
    | true =>
      rw [hK] at HK
      rw [hK, Bool.true_and] at hbad
      have hbig : 100000 < waysL xss := by simpa using hbad
      have d1 : decide ((100000 : Int) < ((waysL xss : Nat) : Int)) = true := decide_eq_true (by omega)
      have HW := Lib.hid (fun q => sWays A n c xss (w.drewN q) (hr.drewN q) (by omega) (fun k hk => (dieB_len (hdie k (by omega))).2))
      clear hr hrow hdie
      go_enter Try.func52, Try.ntmps52
      go_wp2_with (first | (go_at_call 65; refine H.out.mono ?_; rintro e w2 ⟨rfl, q, rfl⟩) | (go_at_call 60; with_reducible refine (HK.out _).mono ?_; rintro e w' ⟨rfl, rfl⟩) | (go_at_call 87; refine (HW.out _).mono ?_; rintro e w' ⟨rfl, rfl⟩))
      go_ret3
      exact ⟨rfl, below_drewN (Below.refl _ _) _⟩
end Go.Proofs.Ythpboedpoipkcaa
