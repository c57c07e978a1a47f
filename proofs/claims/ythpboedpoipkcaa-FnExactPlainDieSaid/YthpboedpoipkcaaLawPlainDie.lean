/- The walk of the law FnExactPlainDie. Conditions: none. -/
import Derived.Test.YthpboedpoipkcaaPlain
import Derived.Test.YthpboedpoipkcaaDieMark
namespace Go.Proofs.Ythpboedpoipkcaa
open Go.ChangeShapes Go.WideShapes Go.ChangeAt Go.RowKit

theorem RP_len (n : Int) : (RP n).1.length ≤ 1048576 := by
  unfold RP
  split
  · next h =>
    simp only [inB, Bool.and_eq_true, decide_eq_true_eq] at h
    simp only [pl_len]
    omega
  · simp
set_option maxRecDepth 100000 in
set_option maxHeartbeats 1600000 in
theorem lawPlainDie (a0 : Int) (w : World) :
    Calls Try.prog 5 #[.int .i64 a0] w fun e w' => e = .returned (.bool true) ∧ Below w.heap.size w w' := by
  have hl0 := RP_len a0
  have Hs := fun W => sPlainDie a0 W
  have Hi := fun W => iPlainDie a0 W
  generalize (RP a0).1 = L at *
  generalize (RP a0).2 = rb at *
  have HS := Lib.hid Hs
  have HI := Lib.hid Hi
  clear Hs Hi
  obtain ⟨n, HL⟩ : ∃ n, Hid (L.length = n) := ⟨_, hide rfl⟩
  have hn : n ≤ 1048576 := by rw [← HL.out]; exact hl0
  have Heq := Lib.hid (fun v u W h1 h2 => eqD v u L W h1 h2 hl0)
  go_enter Try.func5, Try.ntmps5
  go_wp2_with fail
  refine (HS.out _).mono ?_
  rintro e w1 ⟨rs, rfl, Fs_0, hb_1⟩
  obtain ⟨Bs, cs, hv_1, -, -, -, -⟩ := Fs_0.form
  rw [HL.out] at hv_1
  subst hv_1
  have Z1 := hb_1.size
  have A1_ : Below w.heap.size w w1 := ((Below.refl w.heap.size w)).trans (hb_1.mono ((Below.refl w.heap.size w)).size)
  have hb_2 : Below w1.heap.size w1 (w1.alloc (.cells #[.slice Bs n cs] 27)) := (Below.refl _ _).alloc (Nat.le_refl _) _
  have Z2 := hb_2.size
  have A2_ : Below w.heap.size w (w1.alloc (.cells #[.slice Bs n cs] 27)) := (A1_).trans (hb_2.mono (A1_).size)
  have Fs_2 := (Fs_0).below hb_2
  have Ks_0 := dcell w1 (.slice Bs n cs) 27
  have Js_0 : w1.heap.size < (w1.alloc (.cells #[.slice Bs n cs] 27)).heap.size := by simp
  clear hb_2
  go_wp2_with fail
  refine (HI.out _).mono ?_
  rintro e w3 ⟨rg, rfl, Fg_0, hb_3⟩
  obtain ⟨Bg, cg, hv_3, -, -, -, -⟩ := Fg_0.form
  rw [HL.out] at hv_3
  subst hv_3
  have Z3 := hb_3.size
  have A3_ : Below w.heap.size w w3 := (A2_).trans (hb_3.mono (A2_).size)
  have Fs_3 := (Fs_2).below hb_3
  have Ks_3 := bcell1 hb_3 Ks_0 Js_0
  have Js_3 := Nat.lt_of_lt_of_le Js_0 hb_3.size
  clear Ks_0 Js_0
  have hb_4 : Below w3.heap.size w3 (w3.alloc (.cells #[.slice Bg n cg] 27)) := (Below.refl _ _).alloc (Nat.le_refl _) _
  have Z4 := hb_4.size
  have A4_ : Below w.heap.size w (w3.alloc (.cells #[.slice Bg n cg] 27)) := (A3_).trans (hb_4.mono (A3_).size)
  have Fs_4 := (Fs_3).below hb_4
  have Fg_4 := (Fg_0).below hb_4
  have Ks_4 := bcell1 hb_4 Ks_3 Js_3
  have Js_4 := Nat.lt_of_lt_of_le Js_3 hb_4.size
  clear Ks_3 Js_3
  have Kg_0 := dcell w3 (.slice Bg n cg) 27
  have Jg_0 : w3.heap.size < (w3.alloc (.cells #[.slice Bg n cg] 27)).heap.size := by simp
  clear hb_4
  go_wp2_with fail
  refine (Heq.out _ _ _ (Fg_4).rv (Fs_4).rv).mono ?_
  rintro e w5 ⟨rfl, hb_5⟩
  have Z5 := hb_5.size
  have A5_ : Below w.heap.size w w5 := (A4_).trans (hb_5.mono (A4_).size)
  have Fs_5 := (Fs_4).below hb_5
  have Fg_5 := (Fg_4).below hb_5
  have Ks_5 := bcell1 hb_5 Ks_4 Js_4
  have Js_5 := Nat.lt_of_lt_of_le Js_4 hb_5.size
  clear Ks_4 Js_4
  have Kg_5 := bcell1 hb_5 Kg_0 Jg_0
  have Jg_5 := Nat.lt_of_lt_of_le Jg_0 hb_5.size
  clear Kg_0 Jg_0
  go_wp2_with fail
  refine (markD _ _ _ L _ 1 _ (by simp) (Fg_5) hl0 (by omega)).mono ?_
  rintro e w6 ⟨rfl, Fg_m, hK⟩
  rw [HL.out] at Fg_m ⊢
  have Z6 := hK.size
  have A6_ : Below w.heap.size w w6 := Kept.to_below A5_ hK (by first | (simp; done) | (simp; omega)) (A5_).size
  have Fs_6 := (Fs_5).kept hK (by first | (right; simp; done) | (left; simp; done) | (simp; omega))
  have Ks_6 := hK.cell Ks_5 Js_5 (by first | (left; simp; done) | (right; simp; done) | (left; omega) | (right; omega) | (simp; omega))
  have Js_6 := Nat.lt_of_lt_of_le Js_5 hK.size
  clear Ks_5 Js_5
  have Kg_6 := hK.cell Kg_5 Jg_5 (by first | (left; simp; done) | (right; simp; done) | (left; omega) | (right; omega) | (simp; omega))
  have Jg_6 := Nat.lt_of_lt_of_le Jg_5 hK.size
  clear Kg_5 Jg_5
  go_wp2_with fail
  refine (heldD _ n _ 1 _ (by simp) (Fg_m).rv hn (by omega)).mono ?_
  rintro e w7 ⟨rfl, hb_7⟩
  have Z7 := hb_7.size
  have A7_ : Below w.heap.size w w7 := (A6_).trans (hb_7.mono (A6_).size)
  have Fs_7 := (Fs_6).below hb_7
  have Fg_7 := (Fg_m).below hb_7
  have Ks_7 := bcell1 hb_7 Ks_6 Js_6
  have Js_7 := Nat.lt_of_lt_of_le Js_6 hb_7.size
  clear Ks_6 Js_6
  have Kg_7 := bcell1 hb_7 Kg_6 Jg_6
  have Jg_7 := Nat.lt_of_lt_of_le Jg_6 hb_7.size
  clear Kg_6 Jg_6
  go_wp2_with fail
  refine (HI.out _).mono ?_
  rintro e w8 ⟨rh, rfl, Fh_0, hb_8⟩
  obtain ⟨Bh, ch, hv_8, -, -, -, -⟩ := Fh_0.form
  rw [HL.out] at hv_8
  subst hv_8
  have Z8 := hb_8.size
  have A8_ : Below w.heap.size w w8 := (A7_).trans (hb_8.mono (A7_).size)
  have Fs_8 := (Fs_7).below hb_8
  have Fg_8 := (Fg_7).below hb_8
  have Ks_8 := bcell1 hb_8 Ks_7 Js_7
  have Js_8 := Nat.lt_of_lt_of_le Js_7 hb_8.size
  clear Ks_7 Js_7
  have Kg_8 := bcell1 hb_8 Kg_7 Jg_7
  have Jg_8 := Nat.lt_of_lt_of_le Jg_7 hb_8.size
  clear Kg_7 Jg_7
  have hb_9 : Below w8.heap.size w8 (w8.alloc (.cells #[.slice Bh n ch] 27)) := (Below.refl _ _).alloc (Nat.le_refl _) _
  have Z9 := hb_9.size
  have A9_ : Below w.heap.size w (w8.alloc (.cells #[.slice Bh n ch] 27)) := (A8_).trans (hb_9.mono (A8_).size)
  have Fs_9 := (Fs_8).below hb_9
  have Fg_9 := (Fg_8).below hb_9
  have Fh_9 := (Fh_0).below hb_9
  have Ks_9 := bcell1 hb_9 Ks_8 Js_8
  have Js_9 := Nat.lt_of_lt_of_le Js_8 hb_9.size
  clear Ks_8 Js_8
  have Kg_9 := bcell1 hb_9 Kg_8 Jg_8
  have Jg_9 := Nat.lt_of_lt_of_le Jg_8 hb_9.size
  clear Kg_8 Jg_8
  have Kh_0 := dcell w8 (.slice Bh n ch) 27
  have Jh_0 : w8.heap.size < (w8.alloc (.cells #[.slice Bh n ch] 27)).heap.size := by simp
  clear hb_9
  go_wp2_with fail
  refine (Heq.out _ _ _ (Fh_9).rv (Fs_9).rv).mono ?_
  rintro e w10 ⟨rfl, hb_10⟩
  have Z10 := hb_10.size
  have A10_ : Below w.heap.size w w10 := (A9_).trans (hb_10.mono (A9_).size)
  have Fs_10 := (Fs_9).below hb_10
  have Fg_10 := (Fg_9).below hb_10
  have Fh_10 := (Fh_9).below hb_10
  have Ks_10 := bcell1 hb_10 Ks_9 Js_9
  have Js_10 := Nat.lt_of_lt_of_le Js_9 hb_10.size
  clear Ks_9 Js_9
  have Kg_10 := bcell1 hb_10 Kg_9 Jg_9
  have Jg_10 := Nat.lt_of_lt_of_le Jg_9 hb_10.size
  clear Kg_9 Jg_9
  have Kh_10 := bcell1 hb_10 Kh_0 Jh_0
  have Jh_10 := Nat.lt_of_lt_of_le Jh_0 hb_10.size
  clear Kh_0 Jh_0
  go_wp2_with fail
  refine (heldD _ n _ 1 _ (by simp) (Fg_10).rv hn (by omega)).mono ?_
  rintro e w11 ⟨rfl, hb_11⟩
  have Z11 := hb_11.size
  have A11_ : Below w.heap.size w w11 := (A10_).trans (hb_11.mono (A10_).size)
  have Fs_11 := (Fs_10).below hb_11
  have Fg_11 := (Fg_10).below hb_11
  have Fh_11 := (Fh_10).below hb_11
  have Ks_11 := bcell1 hb_11 Ks_10 Js_10
  have Js_11 := Nat.lt_of_lt_of_le Js_10 hb_11.size
  clear Ks_10 Js_10
  have Kg_11 := bcell1 hb_11 Kg_10 Jg_10
  have Jg_11 := Nat.lt_of_lt_of_le Jg_10 hb_11.size
  clear Kg_10 Jg_10
  have Kh_11 := bcell1 hb_11 Kh_10 Jh_10
  have Jh_11 := Nat.lt_of_lt_of_le Jh_10 hb_11.size
  clear Kh_10 Jh_10
  go_wp2
  all_goals go_ret
  all_goals exact ⟨rfl, A11_⟩
end Go.Proofs.Ythpboedpoipkcaa
