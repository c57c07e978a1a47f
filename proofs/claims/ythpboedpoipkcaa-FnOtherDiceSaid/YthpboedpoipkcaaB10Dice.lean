/- The walk of spec.B10Dice at two dice. Conditions: at most 2^20 bytes. -/
import Derived.Test.YthpboedpoipkcaaDraw
namespace Go.Proofs.Ythpboedpoipkcaa
open Go.ChangeShapes Go.WideShapes Go.ChangeAt Go.RowKit

/-- the dice drawn so far -/
structure DrawI (w : World) (lo b : Nat) (ov : Value) (vs : List Value) (xss : List (List Int)) : Prop where
  own : w.ownsRow lo 27 1 ov vs.length vs
  len : vs.length = xss.length
  row : ∀ k v, vs[k]? = some v → RV w v (xss.getD k []) ∧ dieB (xss.getD k []) = true ∧ ∀ g, v.ownBlock = some g → g < w.heap.size ∧ g ≠ b ∧ ov.ownBlock ≠ some g
theorem DrawI.kept {w w' : World} {lo b : Nat} {ov : Value} {vs : List Value} {xss : List (List Int)} (h : DrawI w lo b ov vs xss) (hk : Kept b (b + 1) w w') (hlo : b < lo) : DrawI w' lo b ov vs xss := by
  refine ⟨owns_of_block h.own fun g e => hk.block g (World.ownsRow.lt h.own g e).2 (by have := (World.ownsRow.lt h.own g e).1; omega), h.len, fun k v hv => ?_⟩
  obtain ⟨h1, h2, h3⟩ := h.row k v hv
  have hz := hk.size
  exact ⟨h1.same hz fun g e hl => hk.block g hl (by have := (h3 g e).2.1; omega), h2, fun g e => by have := h3 g e; exact ⟨by omega, this.2⟩⟩

set_option maxRecDepth 100000 in
set_option maxHeartbeats 1600000 in
theorem b10Dice (A : Option Addr) (n c : Nat) (bs : List Int) (w : World) (hr : RdU w A n bs) (hn : n ≤ 1048576) :
    Calls Try.prog 51 #[.slice A n c, .int .i64 2] w fun e w' => ∃ xs ys r, e = .returned r ∧ dieB xs = true ∧ dieB ys = true ∧ RVR w' r [xs, ys] ∧ Below w.heap.size w w' := by
  have HR := hide hr
  go_enter Try.func51, Try.ntmps51
  go_wp2_with fail
  refine (srcFrom A n c w).mono ?_
  rintro e w1 ⟨rfl, hs1, hb1⟩
  have hl1 := hs1.lt
  have hs2 := hide (hs1.below ((Below.refl w1.heap.size w1).alloc (Nat.le_refl _) (.cells #[] 27)) hl1)
  have hb2 := hide (hb1.alloc hb1.size (.cells #[] 27))
  have ho2 := World.ownsRow_made w1 (base := w.heap.size + 1) (e := 27) (size := 1) #[] 0 (by omega) (by simp [maxLen]) (by simp)
  have hd2 : DrawI (w1.alloc (.cells #[] 27)) (w.heap.size + 1) w.heap.size (.slice (some ⟨w1.heap.size, 0, none⟩) 0 0) [] [] := ⟨ho2, rfl, fun k v hv => by simp at hv⟩
  have HD2 := hide hd2
  clear ho2 hd2 hb1
  go_wp2
  go_loopw [1, 6] (fun nn ov wr => ∃ (i j kk : Nat) (vs : List Value) (xss : List (List Int)), nn = .int .i64 (i : Int) ∧ i + j = 2 ∧ kk ≤ 10 * j ∧ vs.length = j ∧ Hid (SrcI wr w.heap.size A n c kk) ∧ Hid (DrawI wr (w.heap.size + 1) w.heap.size ov vs xss) ∧ Hid (Below w.heap.size w wr) ∧ w.heap.size + 1 ≤ wr.heap.size) (fun nn _ _ => (intOf nn).toNat)
  case atStart => exact ⟨2, 0, 0, [], [], rfl, by omega, by omega, rfl, hs2, HD2, hb2, by simp; omega⟩
  case round =>
    clear hs2 HD2 hb2
    obtain ⟨i, j, kk, vs, xss, rfl, hij, hkk, hvs, hs, hd, hb, hz⟩ := hrel
    by_cases h0 : 0 < i
    · have HDr := Lib.hid (drawOk w.heap.size A n c kk bs w wr hs.out HR.out hb.out (Nat.le_refl _) hn (by omega))
      go_wp2_with fail
      refine HDr.out.mono ?_
      rintro e w5 ⟨rA, rn, rc, xs, k', rfl, hdie, hl5, hk5, hs5, ho5, hkp5⟩
      have hOvb : ∀ g, wr.heap.size ≤ g → u6.ownBlock ≠ some g := fun g hg e => by have := (World.ownsRow.lt hd.out.own g e).2; omega
      have hz5 := hkp5.size
      have hd5 := hide (hd.out.kept hkp5 (by omega))
      have hb5 := hide (hkp5.to_below hb.out (Nat.le_refl _) hb.out.size)
      have HS5 := hide hs5
      have HO5 := hide ho5
      have Hvs := hide hvs
      clear hs5 ho5 hd hs hb hkp5 hvs
      go_wp2_with (at_builtin; go_loud (refine app1D (vs := vs) (b := w5.heap.size) rfl hd5.out.own (by have := Hvs.out; omega) (by omega) rfl rfl rfl rfl ?_; intro v2 w2 ho2 hg2 hd2))
      go_roundw
      case rel =>
        have hown := hd5.out.own
        have z2 := hg2.size
        have far : ∀ g, g < w5.heap.size → u6.ownBlock ≠ some g → w2.heap[g]? = w5.heap[g]? := fun g hg hne => hg2.block g hg (fun e => hne e.symm)
        have hrb : ∀ g, u6.ownBlock = some g → w.heap.size + 1 ≤ g ∧ g < w5.heap.size := fun g e => World.ownsRow.lt hown g e
        refine ⟨i - 1, j + 1, k', vs ++ [.slice rA rn rc], xss ++ [xs], by go_num, by omega, by omega, by rw [List.length_append, Hvs.out]; rfl, hide (HS5.out.grown hg2 (fun e => by have := hrb _ e.symm; omega)), hide ⟨by rw [List.length_append]; exact ho2, by rw [List.length_append, List.length_append, hd5.out.len]; rfl, fun k v hk => ?_⟩, hide (hb5.out.grown hg2 (by omega) (fun g e => by have := hrb g e; omega)), by omega⟩
        have hne2 : ∀ g, g < w5.heap.size → u6.ownBlock ≠ some g → v2.ownBlock ≠ some g := fun g hg hne e => by
          rcases hd2 with e2 | e2
          · exact hne (e2 ▸ e)
          · rw [e] at e2
            injection e2 with e2
            omega
        by_cases hlt : k < vs.length
        · rw [List.getElem?_append_left hlt] at hk
          obtain ⟨g1, g2, g3⟩ := hd5.out.row k v hk
          rw [show (xss ++ [xs]).getD k [] = xss.getD k [] by simp [List.getD, List.getElem?_append_left (show k < xss.length by rw [← hd5.out.len]; exact hlt)]]
          exact ⟨g1.same z2 fun g e hl => far g hl (g3 g e).2.2, g2, fun g e => by have h := g3 g e; exact ⟨by omega, h.2.1, hne2 g h.1 h.2.2⟩⟩
        · rw [List.getElem?_append_right (by omega)] at hk
          obtain ⟨e1, e2⟩ : k - vs.length = 0 ∧ Value.slice rA rn rc = v := by
            rcases hq : k - vs.length with _ | q
            · rw [hq] at hk; simpa using hk
            · rw [hq] at hk; simp at hk
          subst e2
          obtain rfl : k = vs.length := by omega
          rw [show (xss ++ [xs]).getD vs.length [] = xs by rw [hd5.out.len]; simp [List.getD]]
          have hblk : ∀ g, (Value.slice rA rn rc).ownBlock = some g → wr.heap.size ≤ g ∧ g < w5.heap.size := fun g e => ⟨(World.ownsRow.lt HO5.out.1 g e).1, (World.ownsRow.lt HO5.out.1 g e).2⟩
          have hov : ∀ g, wr.heap.size ≤ g → u6.ownBlock ≠ some g := fun g hg e => hOvb g hg e
          exact ⟨HO5.out.rv.same z2 fun g e hl => far g hl (hov g (hblk g e).1), hdie, fun g e => by have h := hblk g e; exact ⟨by omega, by omega, hne2 g h.2 (hov g h.1)⟩⟩
      case measure => simp [intOf]; omega
    · obtain rfl : i = 0 := by omega
      obtain rfl : j = 2 := by omega
      have hlx : xss.length = 2 := by rw [← hd.out.len, hvs]
      obtain ⟨xs, ys, rfl⟩ : ∃ xs ys, xss = [xs, ys] := by
        match xss, hlx with
        | [xs, ys], _ => exact ⟨xs, ys, rfl⟩
      · have hd1 := hd.out
        obtain ⟨g, cap, rfl⟩ : ∃ g cap, u6 = .slice (some ⟨g, 0, none⟩) 2 cap := by
          obtain ⟨g, cap, e⟩ := owns_some hd1.own (by omega)
          exact ⟨g, cap, by rw [e, hvs]⟩
        have ho := hd1.own
        rw [hvs] at ho
        have hcap : 2 ≤ cap := by
          rcases ho.2 with ⟨e, _⟩ | ⟨g', cap', cur, e, hlo, hh, hn, hm, hs, ht⟩
          · cases e
          · injection e with e1 e2 e3
            subst e3
            exact hn
        have hx := (hd1.row 0 _ (List.getElem?_eq_getElem (by omega))).2.1
        have hy := (hd1.row 1 _ (List.getElem?_eq_getElem (by omega))).2.1
        have hrv : RVR wr (.slice (some ⟨g, 0, none⟩) 2 cap) [xs, ys] := ⟨_, cap, rfl, ⟨vs, rfl, Rd.of_own ho, fun k v hk => (hd1.row k v hk).1⟩, hcap⟩
        have HRV := hide hrv
        clear hrv ho hd1 hlx
        go_wp2
        go_ret
        exact ⟨xs, ys, _, rfl, hx, hy, HRV.out, hb.out⟩
end Go.Proofs.Ythpboedpoipkcaa
