/- The walk of spec.l05DrawOk: a drawn die is one. Conditions: at most 2^20 bytes, 2^30 choices. -/
import Derived.Test.YthpboedpoipkcaaSrc
import Derived.Test.YthpboedpoipkcaaSumP
import Derived.Test.YthpboedpoipkcaaPlain
import Derived.Test.YthpboedpoipkcaaFindV
namespace Go.Proofs.Ythpboedpoipkcaa
open Go.ChangeShapes Go.WideShapes Go.ChangeAt Go.RowKit

/-- the faces drawn so far, in order, from 0 to x -/
def UpTo (xs : List Int) (x : Int) : Prop := (∀ i, i + 1 < xs.length → xs.getD i 0 ≤ xs.getD (i + 1) 0) ∧ ∀ i, i < xs.length → 0 ≤ xs.getD i 0 ∧ xs.getD i 0 ≤ x
theorem UpTo.push {xs : List Int} {x y : Int} (h : UpTo xs x) (h0 : 0 ≤ x) (hy : x ≤ y) : UpTo (xs ++ [x]) y := by
  have old : ∀ i, i < xs.length → (xs ++ [x]).getD i 0 = xs.getD i 0 := fun i hi => by simp [List.getD, List.getElem?_append_left hi]
  have new : (xs ++ [x]).getD xs.length 0 = x := by simp [List.getD]
  refine ⟨fun i hi => ?_, fun i hi => ?_⟩
  · rw [List.length_append] at hi
    simp at hi
    rw [old i (by omega)]
    by_cases e : i + 1 = xs.length
    · rw [e, new]; exact (h.2 i (by omega)).2
    · rw [old (i + 1) (by omega)]; exact h.1 i (by omega)
  · rw [List.length_append] at hi
    simp at hi
    by_cases e : i = xs.length
    · subst e; rw [new]; omega
    · rw [old i (by omega)]; have := h.2 i (by omega); omega
theorem UpTo.die {xs : List Int} {x : Int} (h : UpTo xs x) (hx : x ≤ 20) (h1 : 1 ≤ xs.length) (h12 : xs.length ≤ 12) : dieB xs = true := by
  rw [dieB_ok (fun k hk => ?_), decide_eq_true ⟨h1, h12⟩]
  have h2 := h.2 k hk
  rcases k with _ | k
  · simp only [badF]
    rw [inB_t (by omega)]
    simp
  · have h3 := h.1 k hk
    simp only [badF]
    rw [inB_t (by omega)]
    simp
    simpa [List.getD] using h3

set_option maxHeartbeats 400000 in
theorem srcMin (x y : Int) (w : World) : Calls Try.prog 96 #[.int .i64 x, .int .i64 y] w fun e w' => e = .returned (.int .i64 (min x y)) ∧ w = w' := by
  by_cases h : x < y
  · have e : min x y = x := by omega
    rw [e]
    go_enter Try.func96, Try.ntmps96
    go_wp2
    go_ret
    exact ⟨rfl, rfl⟩
  · have e : min x y = y := by omega
    rw [e]
    go_enter Try.func96, Try.ntmps96
    go_wp2
    go_ret
    exact ⟨rfl, rfl⟩

theorem SrcI.far {w : World} {b n c k : Nat} {A : Option Addr} {p : Addr} (h : SrcI w b A n c k) (hp : b ≠ p.block) (u : Value) : SrcI (w.setCell p u) b A n c k := by
  obtain ⟨s, h⟩ := h
  exact ⟨s, h.far hp u⟩
theorem Kept.bk {lo hi : Nat} {w w' : World} {g : Nat} {t : TypeId} {cs : List Value} (h : Kept lo hi w w') (hB : Bk w g t cs) (hd : g < lo ∨ hi ≤ g) : Bk w' g t cs := (h.block g hB.lt hd).trans hB
theorem Kept.app {lo hi : Nat} {w w1 w2 : World} {row : Option Nat} (h : Kept lo hi w w1) (hg : w1.grownBy w2 row) (hr : ∀ g, row = some g → w.heap.size ≤ g) : Kept lo hi w w2 :=
  ⟨hg.os.trans h.os, hg.tape.trans h.tape, hg.output.trans h.output, Nat.le_trans h.size hg.size, fun k hk hd => (hg.block k (Nat.lt_of_lt_of_le hk h.size) (fun e => by have := hr k e.symm; omega)).trans (h.block k hk hd)⟩
theorem Kept.put {lo hi : Nat} {w w1 : World} (h : Kept lo hi w w1) {p : Addr} (hp : w.heap.size ≤ p.block) (u : Value) : Kept lo hi w (w1.setCell p u) :=
  ⟨h.os, h.tape, h.output, by rw [set_size]; exact h.size, fun k hk hd => (Below.heap_setCell w1 p u k (by omega)).trans (h.block k hk hd)⟩
theorem Kept.al {lo hi : Nat} {w w1 : World} (h : Kept lo hi w w1) (o : Obj) : Kept lo hi w (w1.alloc o) := h.trans (Kept.below ((Below.refl _ _).alloc (Nat.le_refl _) _) (Nat.le_refl _))

set_option maxRecDepth 100000 in
set_option maxHeartbeats 1600000 in
theorem drawOk (b : Nat) (A : Option Addr) (n c k : Nat) (bs : List Int) (w0 w : World) (hs : SrcI w b A n c k) (hr0 : RdU w0 A n bs) (hb0 : Below w0.heap.size w0 w) (hwb : w0.heap.size ≤ b) (hn : n ≤ 1048576) (hk : k ≤ 1000000) :
    Calls Try.prog 86 #[.pointer (some ⟨b, 0, none⟩), .int .i64 5] w fun e w' => ∃ rA rn rc xs k', e = .returned (.agg #[.slice rA rn rc]) ∧ dieB xs = true ∧ xs.length ≤ 5 ∧ k' ≤ k + 10 ∧ SrcI w' b A n c k' ∧ Own w' w.heap.size w'.heap.size (.slice rA rn rc) xs ∧ Kept b (b + 1) w w' := by
  have hbl := hs.lt
  obtain ⟨B1, B2⟩ := two w 27 (.slice none 0 0) (.slice none 0 0)
  have hb2 : Below w.heap.size w ((w.alloc (.cells #[.slice none 0 0] 27)).alloc (.cells #[.slice none 0 0] 27)) := ((Below.refl _ _).alloc (Nat.le_refl _) _).alloc (by simp) _
  have K2 : Kept b (b + 1) w ((w.alloc (.cells #[.slice none 0 0] 27)).alloc (.cells #[.slice none 0 0] 27)) := (Kept.refl _ _ _).al _ |>.al _
  have hz2 : w.heap.size + 1 < ((w.alloc (.cells #[.slice none 0 0] 27)).alloc (.cells #[.slice none 0 0] 27)).heap.size := by simp
  have hs2 := hs.below hb2 hbl
  have hsz := hb0.size
  have HP := Lib.hid (fun (W : World) (k m : Nat) (h : SrcI W b A n c k) (h2 : Kept b (b + 1) w W) (hk : k ≤ 1099511627776) (hm : 2 ≤ m) (hm2 : m ≤ 200) => srcPick b A n c k m bs W h (hr0.below (h2.to_below hb0 hwb hb0.size)) hn hk hm hm2)
  have HMin := Lib.hid (fun x y W => srcMin x y W)
  clear hb2
  go_enter Try.func86, Try.ntmps86
  go_wp2_with fail
  generalize (w.alloc (.cells #[.slice none 0 0] 27)).alloc (.cells #[.slice none 0 0] 27) = w2 at *
  refine (HP.out _ _ 3 hs2 K2 (by omega) (by omega) (by omega)).mono ?_
  rintro e w3 ⟨⟨x0, rfl, hx0⟩, hs3, k3⟩
  have K3 := K2.trans k3
  have B1 := k3.bk B1 (by omega)
  have B2 := k3.bk B2 (by omega)
  have z3 := k3.size
  go_wp2_with fail
  refine (HP.out _ _ 5 hs3 K3 (by omega) (by omega) (by omega)).mono ?_
  rintro e w4 ⟨⟨m, rfl, hm⟩, hs4, k4⟩
  have K4 := K3.trans k4
  have B1 := k4.bk B1 (by omega)
  have B2 := k4.bk B2 (by omega)
  have z4 := k4.size
  clear hs2 hs3 k3 k4 K2 K3
  go_wp2
  go_loopw [6, 7] (fun x j wr => ∃ (i l y kk : Nat) (xs : List Int) (u : Value), j = .int .i64 (i : Int) ∧ i + l = m + 1 ∧ x = .int .i64 (y : Int) ∧ y ≤ 9 ∧ kk ≤ k + 2 + l ∧ xs.length = l ∧ Hid (UpTo xs (y : Int)) ∧ Hid (SrcI wr b A n c kk) ∧ Hid (Kept b (b + 1) w wr) ∧ Hid (Bk wr w.heap.size 27 [.slice none 0 0]) ∧ Hid (Bk wr (w.heap.size + 1) 27 [u]) ∧ Hid (OwnL wr (w.heap.size + 2) u xs) ∧ w.heap.size + 1 < wr.heap.size) (fun _ j _ => (intOf j).toNat)
  case atStart => exact ⟨m + 1, 0, x0, k + 1 + 1, [], _, by congr 1; omega, by omega, rfl, by omega, by omega, rfl, hide ⟨fun i h => by simp at h, fun i h => by simp at h⟩, hide hs4, hide K4, hide B1, hide B2, hide (OwnL.nil _ _), by omega⟩
  case round =>
    clear hs4 K4 B1 B2
    obtain ⟨i, l, y, kk, xs, u, rfl, hil, rfl, hy, hkk, hlx, hup, hsr, hK, hB1, hB2, hov, hzr⟩ := hrel
    by_cases h0 : 0 < i
    · have hlen : xs.length ≤ 1048576 := by omega
      have Hlen := hide hlen
      have cu : wr.cell? ⟨w.heap.size + 1, 0, none⟩ = some u := (hB2.out.cell 0).trans rfl
      have Hlx := hide hlx
      clear hlen hlx
      go_wp2_with (at_builtin; refine app1 hov.out Hlen.out (by omega) rfl rfl rfl rfl ?_; intro v' w7 ho7 hg7; have hn7 : ∀ g, g < w.heap.size + 2 → some g ≠ u.ownBlock := (fun g hg e => by have := (hov.out.lt _ e.symm).1; omega); have q2 := hB2.out.grown hg7 (hn7 _ (by omega)); have cu7 : w7.cell? ⟨w.heap.size + 1, 0, none⟩ = some u := (q2.cell 0).trans rfl; have fr7 := q2.free 0; obtain ⟨A7, c7, hv7, -, -, -, -⟩ := ho7.own.form; generalize (xs ++ [(y : Int)]).length = l7 at hv7; subst hv7)
      have g1 : Bk (w7.setCell ⟨w.heap.size + 1, 0, none⟩ (.slice A7 l7 c7)) (w.heap.size + 1) 27 [.slice A7 l7 c7] := q2.set 0 _
      have g2 : Bk (w7.setCell ⟨w.heap.size + 1, 0, none⟩ (.slice A7 l7 c7)) w.heap.size 27 [.slice none 0 0] := (hB1.out.grown hg7 (hn7 _ (by omega))).far (by show w.heap.size ≠ w.heap.size + 1; omega) _
      have g3 : OwnL (w7.setCell ⟨w.heap.size + 1, 0, none⟩ (.slice A7 l7 c7)) (w.heap.size + 2) (.slice A7 l7 c7) (xs ++ [(y : Int)]) := (ho7.own.setCell (p := ⟨w.heap.size + 1, 0, none⟩) (by show w.heap.size + 1 < w.heap.size + 2; omega) _).l
      have g4 : SrcI (w7.setCell ⟨w.heap.size + 1, 0, none⟩ (.slice A7 l7 c7)) b A n c kk := (hsr.out.grown hg7 (hn7 _ (by omega))).far (by show b ≠ w.heap.size + 1; omega) _
      have g5 : Kept b (b + 1) w (w7.setCell ⟨w.heap.size + 1, 0, none⟩ (.slice A7 l7 c7)) := (hK.out.app hg7 (fun g e => by have := (hov.out.lt g e).1; omega)).put (by show w.heap.size ≤ w.heap.size + 1; omega) _
      have g6 : w.heap.size + 1 < (w7.setCell ⟨w.heap.size + 1, 0, none⟩ (.slice A7 l7 c7)).heap.size := by have := hg7.size; rw [set_size]; omega
      clear q2 cu7 fr7 hn7 hg7 ho7 cu
      generalize w7.setCell ⟨w.heap.size + 1, 0, none⟩ (.slice A7 l7 c7) = w8 at *
      refine (HP.out _ _ 3 g4 g5 (by omega) (by omega) (by omega)).mono ?_
      rintro e w9 ⟨⟨x, rfl, hx⟩, hs9, k9⟩
      have e1 : IntKind.i64.wrap ((y : Int) + (x : Int)) = (y : Int) + (x : Int) := IntWalk.i64_in _ (by omega)
      go_wp2_with fail
      refine (HMin.out _ _ _).mono ?_
      rintro e w10 ⟨rfl, rfl⟩
      obtain ⟨y2, hy2⟩ : ∃ y2 : Nat, min ((y : Int) + (x : Int)) 9 = (y2 : Int) := ⟨(min ((y : Int) + (x : Int)) 9).toNat, by omega⟩
      have hy9 : y2 ≤ 9 := by omega
      have hyy : y ≤ y2 := by omega
      rw [hy2]
      clear hy2 e1
      go_wp2
      go_roundw
      case rel => exact ⟨i - 1, l + 1, y2, kk + 1, _, _, by go_num, by omega, rfl, hy9, by omega, by rw [List.length_append, Hlx.out]; rfl, hide (hup.out.push (by omega) (by omega)), hide hs9, hide (g5.trans k9), hide (k9.bk g2 (by omega)), hide (k9.bk g1 (by omega)), hide ((g3.own.kept k9 (by omega)).l), by have := k9.size; omega⟩
      case measure => simp [intOf]; omega
    · obtain rfl : i = 0 := by omega
      have cu : wr.cell? ⟨w.heap.size + 1, 0, none⟩ = some u := (hB2.out.cell 0).trans rfl
      have c1 : wr.cell? ⟨w.heap.size, 0, none⟩ = some (.slice none 0 0) := (hB1.out.cell 0).trans rfl
      have fr := hB1.out.free 0
      obtain ⟨A5, c5, hv5, -, -, -, -⟩ := hov.out.own.form
      have HD := hide (hup.out.die (by omega) (by omega) (by omega))
      have Hlx : Hid (xs.length = l) := hide hlx
      obtain ⟨len, hlen⟩ : ∃ len, xs.length = len := ⟨_, rfl⟩
      rw [hlen] at hv5
      subst hv5
      clear hlx
      go_wp2
      have cR : (wr.setCell ⟨w.heap.size, 0, none⟩ (.slice A5 len c5)).cell? ⟨w.heap.size, 0, none⟩ = some (.slice A5 len c5) := ((hB1.out.set 0 (.slice A5 len c5)).cell 0).trans rfl
      exact bodyPost_ret (v := .agg #[.slice A5 len c5]) (by simp [results, Try.results86, go_sem, cR]) rfl ⟨_, _, _, xs, kk, rfl, HD.out, by have h := Hlx.out; omega, by omega, hsr.out.far (by show b ≠ w.heap.size; omega) _, by
        have h1 : Own (wr.setCell ⟨w.heap.size, 0, none⟩ (.slice A5 len c5)) w.heap.size wr.heap.size (.slice A5 len c5) xs := (hov.out.own.setCell (p := ⟨w.heap.size, 0, none⟩) (by show w.heap.size < w.heap.size + 2; omega) _).lo (by omega)
        rw [set_size]
        exact h1, hK.out.put (by show w.heap.size ≤ w.heap.size; omega) _⟩
end Go.Proofs.Ythpboedpoipkcaa
