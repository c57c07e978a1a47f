/- impl.BestOf: its contract. Conditions: lengths at most 2^20. -/
import Derived.Test.YthpboedpoipkcaaBestV
import Derived.Test.YthpboedpoipkcaaSum
namespace Go.Proofs.Ythpboedpoipkcaa
open Go.ChangeShapes Go.WideShapes Go.ChangeAt Go.RowKit

theorem best_boxes (A : Option Addr) (n c : Nat) (kp : Int) (w : World) : ∃ W, W = (w.alloc (.cells #[.slice A n c] 42)).alloc (.cells #[.int .i64 kp] 2) ∧
    Bk W w.heap.size 42 [.slice A n c] ∧ Bk W (w.heap.size + 1) 2 [.int .i64 kp] ∧ Below w.heap.size w W := by
  refine ⟨_, rfl, (Bk.new w 42 [.slice A n c]).alloc (.cells #[.int .i64 kp] 2), ?_, ((Below.refl _ _).alloc (Nat.le_refl _) _).alloc (by simp) _⟩
  have := Bk.new (w.alloc (.cells #[.slice A n c] 42)) 2 [.int .i64 kp]
  simp at this
  exact this

theorem BG.start {w0 w7 : World} {k di co cn su ke : Nat} {dv : Value} {cs : List Int} (hd : Bk w7 di 42 [dv]) (hco : Bk w7 co 22 [.slice (some ⟨cn, 0, none⟩) cs.length cs.length]) (hcn : Bk w7 cn 2 (iv cs))
    (hsu : Bk w7 su 79 [.func (.func 88) #[] #[.pointer (some ⟨ke, 0, none⟩)]]) (hke : Bk w7 ke 2 [.int .i64 (k : Int)]) (hb : Below w0.heap.size w0 w7) (hlo : w0.heap.size ≤ cn) (h1 : di ≠ cn) (h2 : co ≠ cn) (h3 : su ≠ cn) (h4 : ke ≠ cn) :
    BG ⟨w7.heap.size + 1, di, co, cn, su, ke, w7.heap.size + 1 + 1⟩ w0 k dv (((w7.alloc (.cells #[] 2)).alloc (.cells #[.slice (some ⟨w7.heap.size, 0, none⟩) 0 0] 22)).alloc (.cells #[.func (.func 90) #[] #[.pointer (some ⟨w7.heap.size + 1, 0, none⟩), .pointer (some ⟨di, 0, none⟩), .pointer (some ⟨co, 0, none⟩), .pointer (some ⟨su, 0, none⟩), .pointer (some ⟨w7.heap.size + 1 + 1, 0, none⟩)]] 1)) (.slice (some ⟨w7.heap.size, 0, none⟩) 0 0) [] cs := by
  have l2 := hd.lt
  have l3 := hco.lt
  have l4 := hcn.lt
  have l5 := hsu.lt
  have l6 := hke.lt
  have hbs := hb.size
  have g1 : Bk ((w7.alloc (.cells #[] 2)).alloc (.cells #[.slice (some ⟨w7.heap.size, 0, none⟩) 0 0] 22)) (w7.heap.size + 1) 22 [.slice (some ⟨w7.heap.size, 0, none⟩) 0 0] := by
    have := Bk.new (w7.alloc (.cells #[] 2)) 22 [.slice (some ⟨w7.heap.size, 0, none⟩) 0 0]
    simp at this
    exact this
  have g2 := Bk.new ((w7.alloc (.cells #[] 2)).alloc (.cells #[.slice (some ⟨w7.heap.size, 0, none⟩) 0 0] 22)) 1 [.func (.func 90) #[] #[.pointer (some ⟨w7.heap.size + 1, 0, none⟩), .pointer (some ⟨di, 0, none⟩), .pointer (some ⟨co, 0, none⟩), .pointer (some ⟨su, 0, none⟩), .pointer (some ⟨w7.heap.size + 1 + 1, 0, none⟩)]]
  have es : ((w7.alloc (.cells #[] 2)).alloc (.cells #[.slice (some ⟨w7.heap.size, 0, none⟩) 0 0] 22)).heap.size = w7.heap.size + 1 + 1 := by simp
  rw [es] at g2
  have ho : OwnL (w7.alloc (.cells #[] 2)) w0.heap.size (.slice (some ⟨w7.heap.size, 0, none⟩) 0 0) [] := OwnL.empty w7 #[] rfl hbs
  refine ⟨g1.alloc _, ((hd.alloc _).alloc _).alloc _, ((hco.alloc _).alloc _).alloc _, ((hcn.alloc _).alloc _).alloc _, ((hsu.alloc _).alloc _).alloc _, ((hke.alloc _).alloc _).alloc _, g2, World.ownsRow.alloc (World.ownsRow.alloc ho _) _, ⟨_, 0, rfl, Nat.le_refl _⟩, ?_, ⟨?_, ?_, ?_, ?_, ?_, ?_⟩, ⟨?_, h1, h2, h3, h4, ?_⟩, ⟨?_, hlo⟩, ((hb.alloc hbs _).alloc (by simp; omega) _).alloc (by rw [es]; omega) _⟩
  · intro g hg
    simp [Value.ownBlock] at hg
    subst hg
    exact ⟨by show _ ≠ w7.heap.size + 1; omega, by show _ ≠ di; omega, by show _ ≠ co; omega, by show _ ≠ cn; omega, by show _ ≠ su; omega, by show _ ≠ ke; omega, by show _ ≠ w7.heap.size + 1 + 1; omega⟩
  · show di ≠ w7.heap.size + 1; omega
  · show co ≠ w7.heap.size + 1; omega
  · show cn ≠ w7.heap.size + 1; omega
  · show su ≠ w7.heap.size + 1; omega
  · show ke ≠ w7.heap.size + 1; omega
  · show w7.heap.size + 1 + 1 ≠ w7.heap.size + 1; omega
  · show w7.heap.size + 1 ≠ cn; omega
  · show w7.heap.size + 1 + 1 ≠ cn; omega
  · show w0.heap.size ≤ w7.heap.size + 1; omega

set_option maxRecDepth 100000 in
set_option maxHeartbeats 1600000 in
theorem iBestF (A : Option Addr) (n c : Nat) (xss : List (List Int)) (kp : Int) (w : World) (hr : RdR w A n xss) (hn : n ≤ 1048576) (hrow : ∀ k, k < n → (xss.getD k []).length ≤ 1048576) (hbad : (diceB xss && inB kp 1 (n : Int)) = false) :
    Calls Try.prog 53 #[.slice A n c, .int .i64 kp] w fun e w' => e = .returned (.tuple #[.slice none 0 0, .int .i64 0, .bool false]) ∧ Below w.heap.size w w' := by
  obtain ⟨W, hW, b1, b2, hb0⟩ := best_boxes A n c kp w
  have H := Lib.hid (iDice A n c xss _ (hr.below hb0) hn hrow)
  have HK := Lib.hid (fun V => iIn kp 1 (n : Int) V)
  have c1 := b1.cell 0
  have c2 := b2.cell 0
  have l1 := b1.lt
  have l2 := b2.lt
  have HB0 := hide hb0
  have HW := hide hW
  clear hr hrow b1 b2 hW hb0
  go_enter Try.func53, Try.ntmps53
  go_upto_region 1 with fail
  rw [← HW.out]
  cases hD : diceB xss with
  | false =>
    rw [hD] at H
    go_wp2_with (go_at_call 67; refine H.out.mono ?_; rintro e w2 ⟨rfl, hb2⟩)
    go_ret3
    exact ⟨rfl, HB0.out.trans (hb2.mono HB0.out.size)⟩
  | true =>
    rw [hD] at H
    rw [hD, Bool.true_and] at hbad
    rw [hbad] at HK
    go_wp2_with (first | (go_at_call 67; refine H.out.mono ?_; rintro e w2 ⟨rfl, hb2⟩; have k1 := (hb2.cell (p := ⟨w.heap.size, 0, none⟩) l1).trans c1; have k2 := (hb2.cell (p := ⟨w.heap.size + 1, 0, none⟩) l2).trans c2; clear c1 c2) | (go_at_call 57; with_reducible refine (HK.out _).mono ?_; rintro e w' ⟨rfl, rfl⟩))
    go_ret3
    exact ⟨rfl, HB0.out.trans (hb2.mono HB0.out.size)⟩
end Go.Proofs.Ythpboedpoipkcaa
