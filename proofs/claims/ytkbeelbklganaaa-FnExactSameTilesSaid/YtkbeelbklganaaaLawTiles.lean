/- The walks of the laws FnExactSameTiles and FnExactAreTiles. Conditions: none. -/
import Derived.Test.YtkbeelbklganaaaTile3
import Derived.Deep.SlicePairs
namespace Go.Proofs.Ytkbeelbklganaaa
open Go.ChangeShapes Go.WideShapes Go.ChangeAt Go.RowKit

theorem rdT_of {H : Type} {enc : TypeId × Value → H} {w : World} {base : Nat} {spare : Nat → Bool} {held : Bool} {x : Addr} {len n : Nat} {V0 V1 : Nat → Value} {D0 D1 : Nat → DataW H} {P0 P1 : Nat → List MemPlace}
    (h : ∀ i, i < len → w.cell? (x.add (i * 2)) = some (V0 i) ∧ w.cell? (x.add (i * 2 + 1)) = some (V1 i) ∧ DataW.trod enc Try.prog w base spare held n 2 [V0 i] = some (D0 i, P0 i) ∧ DataW.trod enc Try.prog w base spare held n 2 [V1 i] = some (D1 i, P1 i)) :
    ∃ ts : List (Int × Int), ts.length = len ∧ RdT w (some x) len ts := by
  have hi : ∀ i, i < len → ∃ a b : Int, V0 i = .int .i64 a ∧ V1 i = .int .i64 b := fun i hi => by
    obtain ⟨_, _, h1, h2⟩ := h i hi
    obtain ⟨a, ha, _⟩ := DataW.trod_int Try.underlying2 h1
    obtain ⟨b, hb, _⟩ := DataW.trod_int Try.underlying2 h2
    injection ha with ha _
    injection hb with hb _
    exact ⟨a, b, ha, hb⟩
  let f : Nat → Int × Int := fun i => if hlt : i < len then ((hi i hlt).choose, (hi i hlt).choose_spec.choose) else (0, 0)
  refine ⟨(List.range len).map f, by simp, by simp, fun hn => ⟨x, rfl, ?_, fun k hk => ?_⟩⟩
  · have := World.block_lt_of_cell? w _ (h 0 hn).1
    rwa [add_block] at this
  · have e : ((List.range len).map f).getD k (0, 0) = f k := by simp [List.getD, hk]
    have hs := (hi k hk).choose_spec.choose_spec
    have e2 : f k = ((hi k hk).choose, (hi k hk).choose_spec.choose) := by simp [f, hk]
    rw [e, e2, (h k hk).1, (h k hk).2.1]
    exact ⟨congrArg some hs.1, congrArg some hs.2⟩

theorem toTV (v : Value) (ts : List (Int × Int)) (w : World) (hv : RVT w v ts) (hn : ts.length ≤ 1048576) :
    Calls Try.prog 17 #[v] w fun e w' => ∃ r, e = .returned r ∧ RVT w' r ts ∧ Below w.heap.size w w' := by
  obtain ⟨A, c, rfl, hr, _⟩ := hv
  exact toTS A _ c ts w hr hn
theorem eqTV (v u : Value) (ts : List (Int × Int)) (w : World) (hv : RVT w v ts) (hu : RVT w u ts) (hn : ts.length ≤ 1048576) :
    Calls Try.prog 19 #[v, u] w fun e w' => e = .returned (.bool true) ∧ Below w.heap.size w w' := by
  obtain ⟨A, c, rfl, hr, _⟩ := hv
  obtain ⟨B, d, rfl, hr2, _⟩ := hu
  exact eqTS A B _ c d ts w hr hr2 hn
theorem sSameTV (v u : Value) (ts us : List (Int × Int)) (w : World) (hv : RVT w v ts) (hu : RVT w u us) (hn : ts.length ≤ 1048576) (hm : us.length ≤ 1048576) :
    Calls Try.prog 16 #[v, u] w fun e w' => e = .returned (.bool (eqP ts us)) ∧ Below w.heap.size w w' := by
  obtain ⟨A, c, rfl, hr, _⟩ := hv
  obtain ⟨B, d, rfl, hr2, _⟩ := hu
  exact (sSameT A B _ _ c d ts us w hr hr2 hn hm).mono fun e w' ⟨h1, h2⟩ => ⟨h1, below_of_drew h2⟩
theorem iSameTV (v u : Value) (ts us : List (Int × Int)) (w : World) (hv : RVT w v ts) (hu : RVT w u us) (hn : ts.length ≤ 1048576) (hm : us.length ≤ 1048576) :
    Calls Try.prog 18 #[v, u] w fun e w' => e = .returned (.bool (eqP ts us)) ∧ Below w.heap.size w w' := by
  obtain ⟨A, c, rfl, hr, _⟩ := hv
  obtain ⟨B, d, rfl, hr2, _⟩ := hu
  have H := Lib.hid (libEqT A B _ _ c d ts us w hr hr2 hn hm)
  generalize ts.length = n at *
  generalize us.length = m at *
  go_enter Try.func18, Try.ntmps18
  go_wp2_with (go_at_call 43; refine H.out.mono ?_; rintro e w' ⟨rfl, q, rfl⟩)
  go_ret
  exact ⟨rfl, below_drewN (Below.refl _ _) q⟩
theorem sAreTV (v : Value) (ts : List (Int × Int)) (w : World) (hv : RVT w v ts) (hn : ts.length ≤ 1048576) :
    Calls Try.prog 20 #[v] w fun e w' => e = .returned (.bool (RAreTiles ts)) ∧ Below w.heap.size w w' := by
  obtain ⟨A, c, rfl, hr, _⟩ := hv
  have H := Lib.hid (sLine A _ c ts w hr hn)
  generalize ts.length = n at *
  go_enter Try.func20, Try.ntmps20
  go_wp2_with (go_at_call 45; refine H.out.mono ?_; rintro e w' ⟨rfl, rfl⟩)
  go_ret
  exact ⟨rfl, Below.refl _ _⟩
theorem iAreTV (v : Value) (ts : List (Int × Int)) (w : World) (hv : RVT w v ts) (hn : ts.length ≤ 1048576) :
    Calls Try.prog 21 #[v] w fun e w' => e = .returned (.bool (RAreTiles ts)) ∧ Below w.heap.size w w' := by
  obtain ⟨A, c, rfl, hr, _⟩ := hv
  exact iAreT A _ c ts w hr hn
set_option maxHeartbeats 400000 in
theorem szT (A : Option Addr) (n c : Nat) (w : World) (hn : n ≤ 9223372036854775807) :
    Calls Try.prog 15 #[.slice A n c, .int .i64 1048576] w fun e w' => e = .returned (.int .i64 (if 1048576 < n then -1 else 1048576 - (n : Int))) ∧ w = w' := by
  by_cases h : 1048576 < n
  · rw [if_pos h]
    go_enter Try.func15, Try.ntmps15
    go_wp2
    go_ret
    exact ⟨rfl, rfl⟩
  · rw [if_neg h]
    go_enter Try.func15, Try.ntmps15
    go_wp2
    go_ret
    exact ⟨rfl, rfl⟩

set_option maxHeartbeats 800000 in
theorem lawAreTiles (A0 : Option Addr) (c0 : Nat) (x0 : List (Int × Int)) (w : World) (hr0 : RdT w A0 x0.length x0) (hc0 : x0.length ≤ c0) (hb0 : x0.length ≤ 9223372036854775807) :
    Calls Try.prog 5 #[.slice A0 x0.length c0] w fun e w' => e = .returned (.bool true) ∧ Below w.heap.size w w' := by
  have HZ := Lib.hid (szT A0 x0.length c0 w hb0)
  have hv := RVT.mk hr0 hc0
  by_cases hn0 : 1048576 < x0.length
  · rw [if_pos hn0] at HZ
    clear hv hr0
    generalize x0.length = n at *
    go_enter Try.func5, Try.ntmps5
    go_wp2_with (go_at_call 15; refine HZ.out.mono ?_; rintro e w' ⟨rfl, rfl⟩)
    go_ret
    exact ⟨rfl, Below.refl _ _⟩
  · rw [if_neg hn0] at HZ
    have hm0 : x0.length ≤ 1048576 := by omega
    have Hto := Lib.hid (fun v W h => toTV v x0 W h hm0)
    have Hs := Lib.hid (fun v W h => sAreTV v x0 W h hm0)
    have Hi := Lib.hid (fun v W h => iAreTV v x0 W h hm0)
    have Heq := Lib.hid (fun v u W h1 h2 => eqTV v u x0 W h1 h2 hm0)
    generalize RAreTiles x0 = R at *
    clear hr0
    generalize x0.length = n at *
    go_enter Try.func5, Try.ntmps5
    go_wp2_with (go_at_call 15; refine HZ.out.mono ?_; rintro e w' ⟨rfl, rfl⟩)
    go_wp2_with fail
    refine (Hto.out _ _ hv).mono ?_
    rintro e w1 ⟨r1, rfl, h1, hb1⟩
    go_wp2_with fail
    refine (Hs.out _ _ h1).mono ?_
    rintro e w2 ⟨rfl, hb2⟩
    have d2 := hb1.trans (hb2.mono hb1.size)
    go_wp2_with fail
    refine (Hto.out _ _ (hv.below d2)).mono ?_
    rintro e w3 ⟨r3, rfl, h3, hb3⟩
    have d3 := d2.trans (hb3.mono d2.size)
    go_wp2_with fail
    refine (Hi.out _ _ h3).mono ?_
    rintro e w4 ⟨rfl, hb4⟩
    have d4 := d3.trans (hb4.mono d3.size)
    have h4 := h3.below hb4
    go_wp2_with fail
    refine (Hto.out _ _ (hv.below d4)).mono ?_
    rintro e w5 ⟨r5, rfl, h5, hb5⟩
    have d5 := d4.trans (hb5.mono d4.size)
    go_wp2_with fail
    refine (Heq.out _ _ _ (h4.below hb5) h5).mono ?_
    rintro e w6 ⟨rfl, hb6⟩
    have d6 := d5.trans (hb6.mono d5.size)
    go_wp2
    all_goals go_ret
    all_goals exact ⟨rfl, d6⟩

set_option maxHeartbeats 800000 in
theorem szT2 (A : Option Addr) (n c : Nat) (l : Nat) (w : World) (hn : n ≤ 9223372036854775807) (hl : l ≤ 1048576) :
    Calls Try.prog 15 #[.slice A n c, .int .i64 (l : Int)] w fun e w' => e = .returned (.int .i64 (if l < n then -1 else (l : Int) - (n : Int))) ∧ w = w' := by
  by_cases h : l < n
  · rw [if_pos h]
    go_enter Try.func15, Try.ntmps15
    go_wp2
    go_ret
    exact ⟨rfl, rfl⟩
  · rw [if_neg h]
    go_enter Try.func15, Try.ntmps15
    go_wp2
    go_ret
    exact ⟨rfl, rfl⟩

set_option maxHeartbeats 800000 in
theorem lawSameTiles (A0 : Option Addr) (c0 : Nat) (x0 : List (Int × Int)) (A1 : Option Addr) (c1 : Nat) (x1 : List (Int × Int)) (w : World) (hr0 : RdT w A0 x0.length x0) (hc0 : x0.length ≤ c0) (hb0 : x0.length ≤ 9223372036854775807)
    (hr1 : RdT w A1 x1.length x1) (hc1 : x1.length ≤ c1) (hb1 : x1.length ≤ 9223372036854775807) :
    Calls Try.prog 4 #[.slice A0 x0.length c0, .slice A1 x1.length c1] w fun e w' => e = .returned (.bool true) ∧ Below w.heap.size w w' := by
  have HZ := Lib.hid (szT A0 x0.length c0 w hb0)
  have hv := RVT.mk hr0 hc0
  have hu := RVT.mk hr1 hc1
  by_cases hn0 : 1048576 < x0.length
  · rw [if_pos hn0] at HZ
    clear hv hr0 hu hr1
    generalize x0.length = n at *
    generalize x1.length = m at *
    go_enter Try.func4, Try.ntmps4
    go_wp2_with (go_at_call 15; refine HZ.out.mono ?_; rintro e w' ⟨rfl, rfl⟩)
    go_ret
    exact ⟨rfl, Below.refl _ _⟩
  · rw [if_neg hn0] at HZ
    have HZ2 := Lib.hid (szT2 A1 x1.length c1 (1048576 - x0.length) w hb1 (by omega))
    rw [show ((1048576 - x0.length : Nat) : Int) = 1048576 - (x0.length : Int) from by omega] at HZ2
    by_cases hn1 : 1048576 - x0.length < x1.length
    · rw [if_pos hn1] at HZ2
      clear hv hr0 hu hr1
      generalize x0.length = n at *
      generalize x1.length = m at *
      go_enter Try.func4, Try.ntmps4
      go_wp2_with (go_at_call 15; first | ((with_reducible refine HZ.out.mono ?_); rintro e w' ⟨rfl, rfl⟩) | ((with_reducible refine HZ2.out.mono ?_); rintro e w' ⟨rfl, rfl⟩))
      go_ret
      exact ⟨rfl, Below.refl _ _⟩
    · rw [if_neg hn1] at HZ2
      have hm0 : x0.length ≤ 1048576 := by omega
      have hm1 : x1.length ≤ 1048576 := by omega
      have Hto0 := Lib.hid (fun v W h => toTV v x0 W h hm0)
      have Hto1 := Lib.hid (fun v W h => toTV v x1 W h hm1)
      have Hs := Lib.hid (fun v u W h h2 => sSameTV v u x0 x1 W h h2 hm0 hm1)
      have Hi := Lib.hid (fun v u W h h2 => iSameTV v u x0 x1 W h h2 hm0 hm1)
      have Heq0 := Lib.hid (fun v u W h1 h2 => eqTV v u x0 W h1 h2 hm0)
      have Heq1 := Lib.hid (fun v u W h1 h2 => eqTV v u x1 W h1 h2 hm1)
      generalize eqP x0 x1 = R at *
      clear hr0 hr1
      generalize x0.length = n at *
      generalize x1.length = m at *
      go_enter Try.func4, Try.ntmps4
      go_wp2_with (go_at_call 15; first | ((with_reducible refine HZ.out.mono ?_); rintro e w' ⟨rfl, rfl⟩) | ((with_reducible refine HZ2.out.mono ?_); rintro e w' ⟨rfl, rfl⟩))
      go_wp2_with fail
      refine (Hto0.out _ _ hv).mono ?_
      rintro e w1 ⟨r1, rfl, h1, hb1⟩
      go_wp2_with fail
      refine (Hto1.out _ _ (hu.below hb1)).mono ?_
      rintro e w2 ⟨r2, rfl, h2, hb2⟩
      have d2 := hb1.trans (hb2.mono hb1.size)
      go_wp2_with fail
      refine (Hs.out _ _ _ (h1.below hb2) h2).mono ?_
      rintro e w3 ⟨rfl, hb3⟩
      have d3 := d2.trans (hb3.mono d2.size)
      go_wp2_with fail
      refine (Hto0.out _ _ (hv.below d3)).mono ?_
      rintro e w4 ⟨r4, rfl, h4, hb4⟩
      have d4 := d3.trans (hb4.mono d3.size)
      go_wp2_with fail
      refine (Hto1.out _ _ (hu.below d4)).mono ?_
      rintro e w5 ⟨r5, rfl, h5, hb5⟩
      have d5 := d4.trans (hb5.mono d4.size)
      have h4 := h4.below hb5
      go_wp2_with fail
      refine (Hi.out _ _ _ h4 h5).mono ?_
      rintro e w6 ⟨rfl, hb6⟩
      have d6 := d5.trans (hb6.mono d5.size)
      have h4 := h4.below hb6
      have h5 := h5.below hb6
      go_wp2_with fail
      refine (Hto0.out _ _ (hv.below d6)).mono ?_
      rintro e w7 ⟨r7, rfl, h7, hb7⟩
      have d7 := d6.trans (hb7.mono d6.size)
      go_wp2_with fail
      refine (Heq0.out _ _ _ (h4.below hb7) h7).mono ?_
      rintro e w8 ⟨rfl, hb8⟩
      have d8 := d7.trans (hb8.mono d7.size)
      have h5 := (h5.below hb7).below hb8
      go_wp2_with fail
      refine (Hto1.out _ _ (hu.below d8)).mono ?_
      rintro e w9 ⟨r9, rfl, h9, hb9⟩
      have d9 := d8.trans (hb9.mono d8.size)
      go_wp2_with fail
      refine (Heq1.out _ _ _ (h5.below hb9) h9).mono ?_
      rintro e w10 ⟨rfl, hb10⟩
      have d10 := d9.trans (hb10.mono d9.size)
      go_wp2
      all_goals go_ret
      all_goals exact ⟨rfl, d10⟩
end Go.Proofs.Ytkbeelbklganaaa
