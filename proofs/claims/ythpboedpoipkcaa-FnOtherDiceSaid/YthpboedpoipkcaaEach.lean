/- eachDie: the visitor sees all dice in order, until it stops. Conditions: the visitor meets its contract. -/
import Derived.Test.YthpboedpoipkcaaEachC
import Derived.Laws.EntriesVeiled
namespace Go.Proofs.Ythpboedpoipkcaa
open Go.ChangeShapes Go.WideShapes Go.ChangeAt Go.RowKit

theorem growC (V : Vis) (hV : V.Ok) (b : EBx) (F m l : Nat) (hF : F ≤ 12) (hm : m ≤ 1048576) : ∀ k, GrowC V b F m l k
  | 0 => growC0 V hV b F m l hF
  | k + 1 => growCS V hV b F m l k hF hm (growC V hV b F m l hF hm k)

theorem EG.start {V : Vis} (hV : V.Ok) (F m l : Nat) (s : V.σ) (O : Nat → Prop) (w : World) (hlo : V.lo ≤ w.heap.size) (hin : V.inv s O w) :
    EG V ⟨w.heap.size + 1 + 1 + 1 + 1 + 1, w.heap.size, w.heap.size + 1 + 1 + 1, w.heap.size + 1, w.heap.size + 1 + 1, w.heap.size + 1 + 1 + 1 + 1 + 1 + 1⟩ F m l (((((((w.alloc (.cells #[.int .i64 (F : Int)] 3)).alloc (.cells #[.int .i64 (l : Int)] 2)).alloc (.cells #[.int .i64 (m : Int)] 2)).alloc (.cells #[.func (.func V.f) #[] V.cap] 26)).alloc (.cells #[] 2)).alloc (.cells #[.slice (some ⟨w.heap.size + 1 + 1 + 1 + 1, 0, none⟩) 0 0] 22)).alloc (.cells #[.func (.func 93) #[] #[.pointer (some ⟨w.heap.size + 1 + 1 + 1 + 1 + 1, 0, none⟩), .pointer (some ⟨w.heap.size, 0, none⟩), .pointer (some ⟨w.heap.size + 1 + 1 + 1, 0, none⟩), .pointer (some ⟨w.heap.size + 1, 0, none⟩), .pointer (some ⟨w.heap.size + 1 + 1, 0, none⟩), .pointer (some ⟨w.heap.size + 1 + 1 + 1 + 1 + 1 + 1, 0, none⟩)]] 93)) (.slice (some ⟨w.heap.size + 1 + 1 + 1 + 1, 0, none⟩) 0 0) [] s O ∧ Below w.heap.size w (((((((w.alloc (.cells #[.int .i64 (F : Int)] 3)).alloc (.cells #[.int .i64 (l : Int)] 2)).alloc (.cells #[.int .i64 (m : Int)] 2)).alloc (.cells #[.func (.func V.f) #[] V.cap] 26)).alloc (.cells #[] 2)).alloc (.cells #[.slice (some ⟨w.heap.size + 1 + 1 + 1 + 1, 0, none⟩) 0 0] 22)).alloc (.cells #[.func (.func 93) #[] #[.pointer (some ⟨w.heap.size + 1 + 1 + 1 + 1 + 1, 0, none⟩), .pointer (some ⟨w.heap.size, 0, none⟩), .pointer (some ⟨w.heap.size + 1 + 1 + 1, 0, none⟩), .pointer (some ⟨w.heap.size + 1, 0, none⟩), .pointer (some ⟨w.heap.size + 1 + 1, 0, none⟩), .pointer (some ⟨w.heap.size + 1 + 1 + 1 + 1 + 1 + 1, 0, none⟩)]] 93)) := by
  have hno : ∀ k, w.heap.size ≤ k → ¬ O k := fun k hk hn => by have := (hV.lt s O w k hin hn).2; omega
  have hb : Below w.heap.size w (((((((w.alloc (.cells #[.int .i64 (F : Int)] 3)).alloc (.cells #[.int .i64 (l : Int)] 2)).alloc (.cells #[.int .i64 (m : Int)] 2)).alloc (.cells #[.func (.func V.f) #[] V.cap] 26)).alloc (.cells #[] 2)).alloc (.cells #[.slice (some ⟨w.heap.size + 1 + 1 + 1 + 1, 0, none⟩) 0 0] 22)).alloc (.cells #[.func (.func 93) #[] #[.pointer (some ⟨w.heap.size + 1 + 1 + 1 + 1 + 1, 0, none⟩), .pointer (some ⟨w.heap.size, 0, none⟩), .pointer (some ⟨w.heap.size + 1 + 1 + 1, 0, none⟩), .pointer (some ⟨w.heap.size + 1, 0, none⟩), .pointer (some ⟨w.heap.size + 1 + 1, 0, none⟩), .pointer (some ⟨w.heap.size + 1 + 1 + 1 + 1 + 1 + 1, 0, none⟩)]] 93)) := (((((((Below.refl _ _).alloc (by simp) _).alloc (by simp) _).alloc (by simp; omega) _).alloc (by simp; omega) _).alloc (by simp; omega) _).alloc (by simp; omega) _).alloc (by simp; omega) _
  have h0 : Bk (w.alloc (.cells #[.int .i64 (F : Int)] 3)) (w.heap.size) 3 [.int .i64 (F : Int)] := by
    have := Bk.new w 3 [.int .i64 (F : Int)]
    simpa using this
  have h1 : Bk ((w.alloc (.cells #[.int .i64 (F : Int)] 3)).alloc (.cells #[.int .i64 (l : Int)] 2)) (w.heap.size + 1) 2 [.int .i64 (l : Int)] := by
    have := Bk.new (w.alloc (.cells #[.int .i64 (F : Int)] 3)) 2 [.int .i64 (l : Int)]
    simpa using this
  have h2 : Bk (((w.alloc (.cells #[.int .i64 (F : Int)] 3)).alloc (.cells #[.int .i64 (l : Int)] 2)).alloc (.cells #[.int .i64 (m : Int)] 2)) (w.heap.size + 1 + 1) 2 [.int .i64 (m : Int)] := by
    have := Bk.new ((w.alloc (.cells #[.int .i64 (F : Int)] 3)).alloc (.cells #[.int .i64 (l : Int)] 2)) 2 [.int .i64 (m : Int)]
    simpa using this
  have h3 : Bk ((((w.alloc (.cells #[.int .i64 (F : Int)] 3)).alloc (.cells #[.int .i64 (l : Int)] 2)).alloc (.cells #[.int .i64 (m : Int)] 2)).alloc (.cells #[.func (.func V.f) #[] V.cap] 26)) (w.heap.size + 1 + 1 + 1) 26 [.func (.func V.f) #[] V.cap] := by
    have := Bk.new (((w.alloc (.cells #[.int .i64 (F : Int)] 3)).alloc (.cells #[.int .i64 (l : Int)] 2)).alloc (.cells #[.int .i64 (m : Int)] 2)) 26 [.func (.func V.f) #[] V.cap]
    simpa using this
  have h5 : Bk ((((((w.alloc (.cells #[.int .i64 (F : Int)] 3)).alloc (.cells #[.int .i64 (l : Int)] 2)).alloc (.cells #[.int .i64 (m : Int)] 2)).alloc (.cells #[.func (.func V.f) #[] V.cap] 26)).alloc (.cells #[] 2)).alloc (.cells #[.slice (some ⟨w.heap.size + 1 + 1 + 1 + 1, 0, none⟩) 0 0] 22)) (w.heap.size + 1 + 1 + 1 + 1 + 1) 22 [.slice (some ⟨w.heap.size + 1 + 1 + 1 + 1, 0, none⟩) 0 0] := by
    have := Bk.new (((((w.alloc (.cells #[.int .i64 (F : Int)] 3)).alloc (.cells #[.int .i64 (l : Int)] 2)).alloc (.cells #[.int .i64 (m : Int)] 2)).alloc (.cells #[.func (.func V.f) #[] V.cap] 26)).alloc (.cells #[] 2)) 22 [.slice (some ⟨w.heap.size + 1 + 1 + 1 + 1, 0, none⟩) 0 0]
    simpa using this
  have h6 : Bk (((((((w.alloc (.cells #[.int .i64 (F : Int)] 3)).alloc (.cells #[.int .i64 (l : Int)] 2)).alloc (.cells #[.int .i64 (m : Int)] 2)).alloc (.cells #[.func (.func V.f) #[] V.cap] 26)).alloc (.cells #[] 2)).alloc (.cells #[.slice (some ⟨w.heap.size + 1 + 1 + 1 + 1, 0, none⟩) 0 0] 22)).alloc (.cells #[.func (.func 93) #[] #[.pointer (some ⟨w.heap.size + 1 + 1 + 1 + 1 + 1, 0, none⟩), .pointer (some ⟨w.heap.size, 0, none⟩), .pointer (some ⟨w.heap.size + 1 + 1 + 1, 0, none⟩), .pointer (some ⟨w.heap.size + 1, 0, none⟩), .pointer (some ⟨w.heap.size + 1 + 1, 0, none⟩), .pointer (some ⟨w.heap.size + 1 + 1 + 1 + 1 + 1 + 1, 0, none⟩)]] 93)) (w.heap.size + 1 + 1 + 1 + 1 + 1 + 1) 93 [.func (.func 93) #[] #[.pointer (some ⟨w.heap.size + 1 + 1 + 1 + 1 + 1, 0, none⟩), .pointer (some ⟨w.heap.size, 0, none⟩), .pointer (some ⟨w.heap.size + 1 + 1 + 1, 0, none⟩), .pointer (some ⟨w.heap.size + 1, 0, none⟩), .pointer (some ⟨w.heap.size + 1 + 1, 0, none⟩), .pointer (some ⟨w.heap.size + 1 + 1 + 1 + 1 + 1 + 1, 0, none⟩)]] := by
    have := Bk.new ((((((w.alloc (.cells #[.int .i64 (F : Int)] 3)).alloc (.cells #[.int .i64 (l : Int)] 2)).alloc (.cells #[.int .i64 (m : Int)] 2)).alloc (.cells #[.func (.func V.f) #[] V.cap] 26)).alloc (.cells #[] 2)).alloc (.cells #[.slice (some ⟨w.heap.size + 1 + 1 + 1 + 1, 0, none⟩) 0 0] 22)) 93 [.func (.func 93) #[] #[.pointer (some ⟨w.heap.size + 1 + 1 + 1 + 1 + 1, 0, none⟩), .pointer (some ⟨w.heap.size, 0, none⟩), .pointer (some ⟨w.heap.size + 1 + 1 + 1, 0, none⟩), .pointer (some ⟨w.heap.size + 1, 0, none⟩), .pointer (some ⟨w.heap.size + 1 + 1, 0, none⟩), .pointer (some ⟨w.heap.size + 1 + 1 + 1 + 1 + 1 + 1, 0, none⟩)]]
    simpa using this
  have ho : OwnL (((((w.alloc (.cells #[.int .i64 (F : Int)] 3)).alloc (.cells #[.int .i64 (l : Int)] 2)).alloc (.cells #[.int .i64 (m : Int)] 2)).alloc (.cells #[.func (.func V.f) #[] V.cap] 26)).alloc (.cells #[] 2)) V.lo (.slice (some ⟨w.heap.size + 1 + 1 + 1 + 1, 0, none⟩) 0 0) [] := by
    have := OwnL.empty ((((w.alloc (.cells #[.int .i64 (F : Int)] 3)).alloc (.cells #[.int .i64 (l : Int)] 2)).alloc (.cells #[.int .i64 (m : Int)] 2)).alloc (.cells #[.func (.func V.f) #[] V.cap] 26)) #[] rfl (lo := V.lo) (by simp; omega)
    simpa using this
  refine ⟨⟨(h5.alloc _), ((((((h0.alloc _).alloc _).alloc _).alloc _).alloc _).alloc _), (((h3.alloc _).alloc _).alloc _), (((((h1.alloc _).alloc _).alloc _).alloc _).alloc _), ((((h2.alloc _).alloc _).alloc _).alloc _), h6, ?_, ⟨_, 0, rfl, Nat.le_refl _⟩, hV.keep s O w _ hin (hb.mono hlo) (fun g hg => hb.block g (hV.lt s O w g hin hg).2), ?_, ⟨hno _ (by simp; omega), hno _ (by simp), hno _ (by simp; omega), hno _ (by simp), hno _ (by simp; omega), hno _ (by simp; omega)⟩, ⟨by show V.lo ≤ _; simp; omega, Nat.le_trans hlo hb.size⟩, ?_⟩, hb⟩
  · exact World.ownsRow.alloc (World.ownsRow.alloc ho _) _
  · intro g hg
    simp [Value.ownBlock] at hg
    subst hg
    refine ⟨hno _ (by omega), ?_⟩
    simp
    omega
  · simp
    omega

set_option maxRecDepth 100000 in
set_option maxHeartbeats 1600000 in
theorem iEach (V : Vis) (hV : V.Ok) (F m l : Nat) (s : V.σ) (O : Nat → Prop) (w : World) (hF : F ≤ 12) (hm : m ≤ 1048576) (hl : l ≤ m + 1) (hlo : V.lo ≤ w.heap.size) (hin : V.inv s O w) (hgood : V.Fit (growL m F l) s) :
    Calls Try.prog 71 #[.int .i64 (F : Int), .int .i64 (l : Int), .int .i64 (m : Int), .func (.func V.f) #[] V.cap] w fun e w' =>
      e = .returned (.bool (V.run (growL m F l) s).2) ∧ (∃ O', V.inv (V.run (growL m F l) s).1 O' w') ∧ Below V.lo w w' := by
  have Hin := hide hin
  have Hgood := hide hgood
  clear hin hgood
  go_enter Try.func71, Try.ntmps71
  go_upto_region 4 with fail
  have hs := EG.start hV F m l s O w hlo Hin.out
  generalize (((((((w.alloc (.cells #[.int .i64 (F : Int)] 3)).alloc (.cells #[.int .i64 (l : Int)] 2)).alloc (.cells #[.int .i64 (m : Int)] 2)).alloc (.cells #[.func (.func V.f) #[] V.cap] 26)).alloc (.cells #[] 2)).alloc (.cells #[.slice (some ⟨w.heap.size + 1 + 1 + 1 + 1, 0, none⟩) 0 0] 22)).alloc (.cells #[.func (.func 93) #[] #[.pointer (some ⟨w.heap.size + 1 + 1 + 1 + 1 + 1, 0, none⟩), .pointer (some ⟨w.heap.size, 0, none⟩), .pointer (some ⟨w.heap.size + 1 + 1 + 1, 0, none⟩), .pointer (some ⟨w.heap.size + 1, 0, none⟩), .pointer (some ⟨w.heap.size + 1 + 1, 0, none⟩), .pointer (some ⟨w.heap.size + 1 + 1 + 1 + 1 + 1 + 1, 0, none⟩)]] 93)) = W2 at hs ⊢
  obtain ⟨hE, hb⟩ := hs
  have HC := growC V hV _ F m l hF hm F [] l _ s O W2 (by simp) (fun _ => rfl) (fun h => by simp at h) hl (by rw [show fromL m [] F l = growL m F l by simp [fromL]]; exact Hgood.out) hE
  rw [show fromL m [] F l = growL m F l by simp [fromL]] at HC
  have k3 := hE.gr.cell 0
  have HC2 := Lib.hid HC
  have HB := hide (hb.mono hlo)
  clear hE hb HC
  go_wp2_with (go_at_call 93; refine HC2.out.mono ?_; rintro e w4 ⟨rfl, hi4, hb4, -⟩)
  go_ret
  exact ⟨rfl, hi4, HB.out.trans hb4⟩
end Go.Proofs.Ythpboedpoipkcaa
