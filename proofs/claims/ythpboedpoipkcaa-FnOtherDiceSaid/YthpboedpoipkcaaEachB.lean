/- eachDie's closure where the list is whole: the visitor is called. Conditions: the visitor meets its contract. -/
import Derived.Test.YthpboedpoipkcaaEachG
namespace Go.Proofs.Ythpboedpoipkcaa
open Go.ChangeShapes Go.WideShapes Go.ChangeAt Go.RowKit

set_option maxRecDepth 100000 in
set_option maxHeartbeats 1600000 in
theorem grow0 (V : Vis) (hV : V.Ok) (b : EBx) (m l : Nat) (p : List Int) (v : Value) (s : V.σ) (O : Nat → Prop) (w : World) (hF : p.length ≤ 12) (hg : V.good s p) (h : EG V b p.length m l w v p s O) :
    Calls Try.prog 93 #[.pointer (some ⟨b.li, 0, none⟩), .pointer (some ⟨b.fa, 0, none⟩), .pointer (some ⟨b.vi, 0, none⟩), .pointer (some ⟨b.le, 0, none⟩), .pointer (some ⟨b.mo, 0, none⟩), .pointer (some ⟨b.gr, 0, none⟩)] w fun e w' =>
      e = .returned (.bool (V.go s p)) ∧ (∃ O', EG V b p.length m l w' v p (V.step s p) O') ∧ Below V.lo w w' := by
  obtain ⟨g, c, hv, hc⟩ := h.form
  have eg := hV.ent
  have hli := h.li
  have hfa := h.fa
  have hvi := h.vi
  rw [hv] at hli
  have c1 : w.cell? ⟨b.li, 0, none⟩ = some (.slice (some ⟨g, 0, none⟩) p.length c) := by rw [hli.cell]; rfl
  have c2 : w.cell? ⟨b.fa, 0, none⟩ = some (.int .i64 (p.length : Int)) := by rw [hfa.cell]; rfl
  have c3 : w.cell? ⟨b.vi, 0, none⟩ = some (.func (.func V.f) #[] V.cap) := by rw [hvi.cell]; rfl
  have hrv : RV w (.slice (some ⟨g, 0, none⟩) p.length c) p := by rw [← hv]; exact h.own.own.rv
  have HC := Lib.hid (libClone _ p _ (hrv.drewN 1) (by omega))
  have l1 := hli.lt
  have l3 := hvi.lt
  have H := hide h
  have Hlo := hide h.lo
  have Hvis : Hid (∀ w1 r, Own w1 w.heap.size w1.heap.size r p → Below w.heap.size w w1 → Calls Try.prog V.f (#[.agg #[r]] ++ V.cap) w1 fun e w' => e = .returned (.bool (V.go s p)) ∧ (∃ O', EG V b p.length m l w' v p (V.step s p) O') ∧ Below V.lo w w') := hide fun w1 r hr hb => by
    have hin : V.inv s O w1 := hV.keep s O w w1 h.inv (hb.mono h.lo.2) fun g hg => hb.block g (hV.lt s O w g h.inv hg).2
    refine (hV.call s O w1 r p hin (Nat.le_trans h.lo.2 hb.size) (hr.lo h.lo.2).l (fun g hg hn => ?_) hg).mono fun e w' ⟨h1, h3, O', h2, h4, h5⟩ => ⟨h1, ⟨O', h.visited hr hb h2 h3 h4 h5⟩, (hb.mono h.lo.2).trans h3⟩
    have := (World.ownsRow.lt hr.1 g hg).1
    have := (hV.lt s O w g h.inv hn).2
    omega
  have Hv := hide hv
  clear h hli hfa hvi hrv hv
  generalize V.go s p = R at *
  generalize hn : p.length = n at *
  have hn' := hide hn
  clear hn
  go_enter Try.func93, Try.ntmps93
  go_wp2
  go_region_held3 (fun w' => w'.cell? ⟨b.li, 0, none⟩ = some (.slice (some ⟨g, 0, none⟩) n c) ∧ w'.cell? ⟨b.vi, 0, none⟩ = some (.func (.func V.f) #[] V.cap))
    (first | exact ⟨c1, c3⟩ | exact ⟨(hb1.cell (p := ⟨b.li, 0, none⟩) l1).trans c1, (hb1.cell (p := ⟨b.vi, 0, none⟩) l3).trans c3⟩ | exact ⟨by rw [hE.li.cell, Hv.out]; rfl, by rw [hE.vi.cell]; rfl⟩)
    ((first | (go_at_call 73; refine HC.out.mono ?_; rintro e w1 ⟨r, rfl, ho1, hb1⟩; obtain ⟨A1, d1, hr1, -, -, -, -⟩ := ho1.form; rw [hr1] at ho1 ⊢; replace hb1 : Below w.heap.size w w1 := (below_drewN (Below.refl _ w) 1).trans hb1) | (refine (Hvis.out _ _ ho1 hb1).mono ?_; rintro e w2 ⟨rfl, ⟨O2, hE⟩, hb2⟩)))
  go_wp2
  go_ret
  exact ⟨rfl, ⟨O2, hn'.out ▸ hE⟩, hb2⟩
end Go.Proofs.Ythpboedpoipkcaa
