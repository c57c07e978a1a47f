/- OtherPair's visitor: it keeps the first pair that has the same sums. Conditions: 1 to 6 faces, at most 20 counts. -/
import Derived.Test.YthpboedpoipkcaaPart
import Derived.Test.YthpboedpoipkcaaChain
import Derived.Test.YthpboedpoipkcaaBeats
namespace Go.Proofs.Ythpboedpoipkcaa
open Go.ChangeShapes Go.WideShapes Go.ChangeAt Go.RowKit

/-- what OtherPair's visitor reads: the counts and the die, ahead of all that it writes -/
structure PE where
  w0 : World
  Bw : Nat
  Bd : Nat
  A1 : Option Addr
  A2 : Option Addr
  n : Nat
  L : Nat
  c1 : Nat
  c2 : Nat
  d : List Int
  want : List Int
structure PE.Ok (E : PE) : Prop where
  bw : Bk E.w0 E.Bw 22 [.slice E.A2 E.L E.c2]
  bd : Bk E.w0 E.Bd 27 [.slice E.A1 E.n E.c1]
  rw : Rd E.w0 E.A2 E.L (iv E.want)
  rd : Rd E.w0 E.A1 E.n (iv E.d)
  lw : E.L ≤ E.c2
  ld : E.n ≤ E.c1
  n1 : 1 ≤ E.n
  n6 : E.n ≤ 6
  L20 : E.L ≤ 20
  inb : InB 0 E.want
/-- the values that the two variables hold -/
def PairVs (w : World) (lo : Nat) (v1 v2 : Value) : Option (List Int × List Int) → Prop
  | none => v1 = .slice none 0 0 ∧ v2 = .slice none 0 0
  | some (x, y) => OwnL w lo v1 x ∧ OwnL w lo v2 y ∧ ∀ g, v1.ownBlock = some g → v2.ownBlock ≠ some g
def PEi (E : PE) (s : Option (List Int × List Int)) (O : Nat → Prop) (w : World) : Prop :=
  ∃ v1 v2, Below E.w0.heap.size E.w0 w ∧ Bk w E.w0.heap.size 27 [v1] ∧ Bk w (E.w0.heap.size + 1) 27 [v2] ∧ Bk w (E.w0.heap.size + 1 + 1) 4 [.bool s.isSome] ∧
    PairVs w E.w0.heap.size v1 v2 s ∧ ∀ b, O b ↔ (b = E.w0.heap.size ∨ b = E.w0.heap.size + 1 ∨ b = E.w0.heap.size + 1 + 1 ∨ v1.ownBlock = some b ∨ v2.ownBlock = some b)
def pvV (E : PE) : Vis where
  σ := Option (List Int × List Int)
  inv := PEi E
  step := fun s x => s.or (pairX E.d E.want x)
  go := fun s x => (s.or (pairX E.d E.want x)).isNone
  good := fun s x => s = none ∧ x.length = E.n ∧ (∀ j, j < E.n → 1 ≤ x.getD 0 0 ∧ x.getD 0 0 ≤ x.getD j 0 ∧ x.getD j 0 ≤ 20) ∧ x.getD 0 0 < (E.L : Int)
  f := 82
  cap := #[.pointer (some ⟨E.Bw, 0, none⟩), .pointer (some ⟨E.Bd, 0, none⟩), .pointer (some ⟨E.w0.heap.size, 0, none⟩), .pointer (some ⟨E.w0.heap.size + 1, 0, none⟩), .pointer (some ⟨E.w0.heap.size + 1 + 1, 0, none⟩)]
  lo := E.w0.heap.size

theorem divR_len {fs want ys : List Int} (h : divR fs want = some ys) : ys.length = fs.length := by
  unfold divR at h
  cases hk : divP fs want want.length with
  | none => rw [hk] at h; cases h
  | some s =>
    rw [hk] at h
    have h : endP fs s = some ys := h
    unfold endP at h
    split at h
    · next e => injection h with h; subst h; exact e
    · cases h
theorem PEi.keep {E : PE} {s : Option (List Int × List Int)} {O : Nat → Prop} {w w' : World} (h : PEi E s O w) (hb : Below E.w0.heap.size w w') (hk : ∀ g, O g → w'.heap[g]? = w.heap[g]?) : PEi E s O w' := by
  obtain ⟨v1, v2, h0, h1, h2, h3, h4, h5⟩ := h
  refine ⟨v1, v2, h0.trans hb, h1.same (hk _ ((h5 _).2 (.inl rfl))), h2.same (hk _ ((h5 _).2 (.inr (.inl rfl)))), h3.same (hk _ ((h5 _).2 (.inr (.inr (.inl rfl))))), ?_, h5⟩
  cases s with
  | none => exact h4
  | some p =>
    obtain ⟨h6, h7, h8⟩ := h4
    exact ⟨h6.same (fun g e => hk g ((h5 _).2 (.inr (.inr (.inr (.inl e)))))), h7.same (fun g e => hk g ((h5 _).2 (.inr (.inr (.inr (.inr e)))))), h8⟩
theorem PEi.drew {E : PE} {s : Option (List Int × List Int)} {O : Nat → Prop} {w : World} (h : PEi E s O w) : PEi E s O w.drew := by
  obtain ⟨v1, v2, h0, h1, h2, h3, h4, h5⟩ := h
  refine ⟨v1, v2, h0.drew, h1, h2, h3, ?_, h5⟩
  cases s with
  | none => exact h4
  | some p => exact h4
theorem PEi.lt {E : PE} {s : Option (List Int × List Int)} {O : Nat → Prop} {w : World} (h : PEi E s O w) {g : Nat} (hg : O g) : E.w0.heap.size ≤ g ∧ g < w.heap.size := by
  obtain ⟨v1, v2, h0, h1, h2, h3, h4, h5⟩ := h
  have l1 := h1.lt
  have l2 := h2.lt
  have l3 := h3.lt
  rcases (h5 g).1 hg with rfl | rfl | rfl | e | e
  · exact ⟨Nat.le_refl _, l1⟩
  · exact ⟨by omega, l2⟩
  · exact ⟨by omega, l3⟩
  · cases s with
    | none => rw [h4.1] at e; cases e
    | some p => exact h4.1.lt g e
  · cases s with
    | none => rw [h4.2] at e; cases e
    | some p => exact h4.2.1.lt g e
/-- the visitor goes on: nothing of its own has turned -/
theorem PEi.stay {E : PE} {O : Nat → Prop} {w W : World} {v : Value} (h : PEi E none O w) (hlo : E.w0.heap.size ≤ w.heap.size) (hb : Below w.heap.size w W) : Below E.w0.heap.size w W ∧ ∃ O', PEi E none O' W ∧
      (∀ g, g < w.heap.size → ¬ O g → v.ownBlock ≠ some g → W.heap[g]? = w.heap[g]?) ∧ (∀ g, O' g → O g ∨ w.heap.size ≤ g ∨ v.ownBlock = some g) :=
  ⟨hb.mono hlo, O, h.keep (hb.mono hlo) (fun g hg => hb.block g (h.lt hg).2), fun g hg _ _ => hb.block g hg, fun g hg => .inl hg⟩
/-- the visitor has found a pair -/
theorem PEi.found {E : PE} {O : Nat → Prop} {w W : World} {v r : Value} {xs ys : List Int} (h : PEi E none O w) (hlo : E.w0.heap.size ≤ w.heap.size) (hb : Below w.heap.size w W) (hv : OwnL w E.w0.heap.size v xs) (hO : ∀ g, v.ownBlock = some g → ¬ O g)
    (hr : Own W w.heap.size W.heap.size r ys) : Below E.w0.heap.size w (((W.setCell ⟨E.w0.heap.size, 0, none⟩ v).setCell ⟨E.w0.heap.size + 1, 0, none⟩ r).setCell ⟨E.w0.heap.size + 1 + 1, 0, none⟩ (.bool true)) ∧ ∃ O', PEi E (some (xs, ys)) O' (((W.setCell ⟨E.w0.heap.size, 0, none⟩ v).setCell ⟨E.w0.heap.size + 1, 0, none⟩ r).setCell ⟨E.w0.heap.size + 1 + 1, 0, none⟩ (.bool true)) ∧
      (∀ g, g < w.heap.size → ¬ O g → v.ownBlock ≠ some g → (((W.setCell ⟨E.w0.heap.size, 0, none⟩ v).setCell ⟨E.w0.heap.size + 1, 0, none⟩ r).setCell ⟨E.w0.heap.size + 1 + 1, 0, none⟩ (.bool true)).heap[g]? = w.heap[g]?) ∧ (∀ g, O' g → O g ∨ w.heap.size ≤ g ∨ v.ownBlock = some g) := by
  obtain ⟨v1, v2, h0, h1, h2, h3, ⟨rfl, rfl⟩, h5⟩ := h
  have l1 := h1.lt
  have l2 := h2.lt
  have l3 := h3.lt
  have hz := hb.size
  have hvO : ∀ g, v.ownBlock = some g → g ≠ E.w0.heap.size ∧ g ≠ E.w0.heap.size + 1 ∧ g ≠ E.w0.heap.size + 1 + 1 := fun g hg => by
    have := hO g hg
    rw [h5] at this
    exact ⟨fun e => this (.inl e), fun e => this (.inr (.inl e)), fun e => this (.inr (.inr (.inl e)))⟩
  have hrO : ∀ g, r.ownBlock = some g → w.heap.size ≤ g := fun g hg => (World.ownsRow.lt hr.1 g hg).1
  have hB : Below E.w0.heap.size w (((W.setCell ⟨E.w0.heap.size, 0, none⟩ v).setCell ⟨E.w0.heap.size + 1, 0, none⟩ r).setCell ⟨E.w0.heap.size + 1 + 1, 0, none⟩ (.bool true)) :=
    (((hb.mono hlo).setCell (p := ⟨E.w0.heap.size, 0, none⟩) (Nat.le_refl _) _).setCell (p := ⟨E.w0.heap.size + 1, 0, none⟩) (by show E.w0.heap.size ≤ E.w0.heap.size + 1; omega) _).setCell (p := ⟨E.w0.heap.size + 1 + 1, 0, none⟩) (by show E.w0.heap.size ≤ E.w0.heap.size + 1 + 1; omega) _
  have far : ∀ g, g ≠ E.w0.heap.size → g ≠ E.w0.heap.size + 1 → g ≠ E.w0.heap.size + 1 + 1 → (((W.setCell ⟨E.w0.heap.size, 0, none⟩ v).setCell ⟨E.w0.heap.size + 1, 0, none⟩ r).setCell ⟨E.w0.heap.size + 1 + 1, 0, none⟩ (.bool true)).heap[g]? = W.heap[g]? := fun g n1 n2 n3 =>
    (Below.heap_setCell _ _ _ _ n3).trans ((Below.heap_setCell _ _ _ _ n2).trans (Below.heap_setCell _ _ _ _ n1))
  refine ⟨hB, fun b => b = E.w0.heap.size ∨ b = E.w0.heap.size + 1 ∨ b = E.w0.heap.size + 1 + 1 ∨ v.ownBlock = some b ∨ r.ownBlock = some b, ⟨v, r, h0.trans hB, ?_, ?_, ?_, ⟨?_, ?_, fun g hg hn => ?_⟩, fun b => Iff.rfl⟩, fun g hg hn hv' => ?_, ?_⟩
  · exact (((h1.below hb l1).set 0 v).far (by show E.w0.heap.size ≠ E.w0.heap.size + 1; omega) _).far (by show E.w0.heap.size ≠ E.w0.heap.size + 1 + 1; omega) _
  · exact (((h2.below hb l2).far (by show E.w0.heap.size + 1 ≠ E.w0.heap.size; omega) _).set 0 r).far (by show E.w0.heap.size + 1 ≠ E.w0.heap.size + 1 + 1; omega) _
  · exact (((h3.below hb l3).far (by show E.w0.heap.size + 1 + 1 ≠ E.w0.heap.size; omega) _).far (by show E.w0.heap.size + 1 + 1 ≠ E.w0.heap.size + 1; omega) _).set 0 (.bool true)
  · exact (hv.below hb).same fun g hg => far g (hvO g hg).1 (hvO g hg).2.1 (hvO g hg).2.2
  · exact (hr.lo hlo).l.same fun g hg => by
      have := hrO g hg
      exact far g (by omega) (by omega) (by omega)
  · have := hrO g hn
    have := (hv.lt g hg).2
    omega
  · rw [h5] at hn
    exact (far g (fun e => hn (.inl e)) (fun e => hn (.inr (.inl e))) (fun e => hn (.inr (.inr (.inl e))))).trans (hb.block g hg)
  · rintro g (rfl | rfl | rfl | e | e)
    · exact .inl ((h5 _).2 (.inl rfl))
    · exact .inl ((h5 _).2 (.inr (.inl rfl)))
    · exact .inl ((h5 _).2 (.inr (.inr (.inl rfl))))
    · exact .inr (.inr e)
    · exact .inr (.inl (hrO g e))

set_option maxRecDepth 100000 in
set_option maxHeartbeats 1600000 in
theorem pvCall (E : PE) (hE : E.Ok) (O : Nat → Prop) (w : World) (v : Value) (xs : List Int) (hin : PEi E none O w) (hlo : E.w0.heap.size ≤ w.heap.size) (hv : OwnL w E.w0.heap.size v xs) (hO : ∀ g, v.ownBlock = some g → ¬ O g)
    (hl : xs.length = E.n) (hx : ∀ j, j < E.n → 1 ≤ xs.getD 0 0 ∧ xs.getD 0 0 ≤ xs.getD j 0 ∧ xs.getD j 0 ≤ 20) (hx0 : xs.getD 0 0 < (E.L : Int)) :
    Calls Try.prog 82 (#[.agg #[v]] ++ (pvV E).cap) w fun e w' => e = .returned (.bool (pairX E.d E.want xs).isNone) ∧ Below E.w0.heap.size w w' ∧ ∃ O', PEi E (pairX E.d E.want xs) O' w' ∧
      (∀ g, g < w.heap.size → ¬ O g → v.ownBlock ≠ some g → w'.heap[g]? = w.heap[g]?) ∧ (∀ g, O' g → O g ∨ w.heap.size ≤ g ∨ v.ownBlock = some g) := by
  obtain ⟨w0, Bw, Bd, A1, A2, n, L, c1, c2, d, want⟩ := E
  obtain ⟨hbw, hbd, hrw, hrd, hlw, hld, hn1, hn6, hL20, hinb⟩ := hE
  obtain ⟨v1, v2, hb, hf, hs, ho, ⟨rfl, rfl⟩, hOb⟩ := hin
  dsimp only at *
  obtain ⟨AV, cv, rfl, hcv, -, -, -⟩ := hv.own.form
  rw [hl] at hcv
  have hrv := hv.own.rv
  rw [hl] at hv hO hrv
  have b1 : Below w.heap.size w (w.alloc (.cells #[.slice AV n cv] 27)) := (Below.refl _ _).alloc (Nat.le_refl _) _
  have hbb := hb.trans (b1.mono hb.size)
  have hlr : Rd (w.alloc (.cells #[.slice AV n cv] 27)) AV n (iv xs) := by
    obtain ⟨A', c', e, h1, h2⟩ := hrv.below b1
    injection e with e1 e2 e3
    subst e1 e3
    rw [hl] at h1
    exact h1
  have HP := Lib.hid (iPart AV A2 n cv L c2 xs want _ hlr (hrw.below hbb) hlw hn1 hn6 hL20 hx hx0 hinb)
  have k1 : (w.alloc (.cells #[.slice AV n cv] 27)).cell? ⟨w.heap.size, 0, none⟩ = some (.slice AV n cv) := dcell _ _ _
  have k2 : (w.alloc (.cells #[.slice AV n cv] 27)).cell? ⟨Bw, 0, none⟩ = some (.slice A2 L c2) := bcell1 hbb ((hbw.cell 0).trans rfl) hbw.lt
  have k3 : (w.alloc (.cells #[.slice AV n cv] 27)).cell? ⟨Bd, 0, none⟩ = some (.slice A1 n c1) := bcell1 hbb ((hbd.cell 0).trans rfl) hbd.lt
  unfold pairX
  have hargs : (#[.agg #[.slice AV n cv]] ++ (pvV ⟨w0, Bw, Bd, A1, A2, n, L, c1, c2, d, want⟩).cap : Array Value) = #[.agg #[.slice AV n cv], .pointer (some ⟨Bw, 0, none⟩), .pointer (some ⟨Bd, 0, none⟩), .pointer (some ⟨w0.heap.size, 0, none⟩), .pointer (some ⟨w0.heap.size + 1, 0, none⟩), .pointer (some ⟨w0.heap.size + 1 + 1, 0, none⟩)] := rfl
  rw [hl, hargs]
  clear hargs
  have hsz : (w.alloc (.cells #[.slice AV n cv] 27)).heap.size = w.heap.size + 1 := by simp
  generalize hwA : w.alloc (.cells #[.slice AV n cv] 27) = wA at *
  have Hin : Hid (PEi ⟨w0, Bw, Bd, A1, A2, n, L, c1, c2, d, want⟩ none O w) := hide ⟨_, _, hb, hf, hs, ho, ⟨rfl, rfl⟩, hOb⟩
  have HB := hide b1
  have HL := hide hlr
  have HV := hide hv
  have HO := hide hO
  have HW2 := hide (hrd.below hbb)
  have e1 := ho.cell 0
  have hq1 := bcell1 HB.out ((hf.cell 0).trans rfl) hf.lt
  have hq2 := bcell1 HB.out ((hs.cell 0).trans rfl) hs.lt
  have hq3 := bcell1 HB.out ((ho.cell 0).trans rfl) ho.lt
  have z1 := hf.lt
  have z2 := hs.lt
  have z3 := ho.lt
  have zw : Bw < wA.heap.size := by have := hbw.lt; have := hbb.size; omega
  have zd : Bd < wA.heap.size := by have := hbd.lt; have := hbb.size; omega
  clear b1 hv hO hlr hrw hrd hbw hbd hb hf hs ho hOb hrv hbb e1 hx hx0
  have HWA := hide hwA
  clear hwA
  cases hq : divR xs want with
  | none =>
    rw [hq] at HP
    go_enter Try.func82, Try.ntmps82
    go_upto_region 1 with fail
    rw [HWA.out]
    go_upto_region 2 with (go_at_call 83; go_loud (refine HP.out.mono ?_; rintro e w2 ⟨rA, rn, rc, rfl, hb2, -⟩; have q3 := bcell1 (hb2.alloc hb2.size (.cells #[.slice rA rn rc] 27)) hq3 (by omega)))
    go_wp2
    go_ret
    exact ⟨rfl, Hin.out.stay hlo ((HB.out.trans (hb2.mono HB.out.size)).alloc (by have := HB.out.size; have := hb2.size; omega) _)⟩
  | some ys =>
    have hly := divR_len hq
    rw [hl] at hly
    rw [hq] at HP
    go_enter Try.func82, Try.ntmps82
    go_upto_region 1 with fail
    rw [HWA.out]
    go_upto_region 2 with (go_at_call 83; go_loud (refine HP.out.mono ?_; rintro e w2 ⟨rA, rn, rc, rfl, hb2, how⟩))
    have hown := how ys rfl
    obtain ⟨-, hrn, hrc⟩ := hown.rd
    rw [hly] at hrn
    subst hrn
    have hz2 := hb2.size
    have hb3 := hb2.alloc hb2.size (.cells #[.slice rA n rc] 27)
    have hw3z : (w2.alloc (.cells #[.slice rA n rc] 27)).heap.size = w2.heap.size + 1 := by simp
    have k8 : (w2.alloc (.cells #[.slice rA n rc] 27)).cell? ⟨w2.heap.size, 0, none⟩ = some (.slice rA n rc) := dcell _ _ _
    have hown3 := hown.below ((Below.refl w2.heap.size w2).alloc (Nat.le_refl _) (.cells #[.slice rA n rc] 27))
    generalize w2.alloc (.cells #[.slice rA n rc] 27) = w3 at *
    generalize w2.heap.size = b8 at *
    have p1 := bcell1 hb3 k1 (by omega)
    have p3 := bcell1 hb3 k3 zd
    have q1 := bcell1 hb3 hq1 (by omega)
    have q2 := bcell1 hb3 hq2 (by omega)
    have q3 := bcell1 hb3 hq3 (by omega)
    have HR1 := hide (HL.out.below hb3)
    have HR2 := hide (hown3.rd.1)
    have HRd := hide (HW2.out.below hb3)
    have HOw := hide hown3
    have Hlx := hide hl
    have Hly := hide hly
    have HBW : Hid (Below w.heap.size w w3) := hide (HB.out.trans (hb3.mono HB.out.size))
    have hz3 := hb3.size
    clear how hown hb2 hb3 hown3 k1 k2 k3 hq1 hq2 hq3 HP hq hly hl
    have HC := Lib.hid (libCompare AV rA n cv rc xs ys w3 HR1.out HR2.out (by omega))
    cases hbf : befL ys xs with
    | true =>
      rw [hbf] at HC
      go_wp2_with (go_at_call 84; refine HC.out.mono ?_; rintro e w4 ⟨⟨z, rfl, hz⟩, rfl⟩; have hz' : decide (z ≤ 0) = false := hz)
      go_ret
      rw [hbf]
      exact ⟨rfl, Hin.out.stay hlo HBW.out⟩
    | false =>
      rw [hbf] at HC
      have HS1 := Lib.hid (iSameD (.slice AV n cv) (.slice A1 n c1) xs d w3 (RV.mk HR1.out hcv) (RV.mk HRd.out hld) (by rw [Hlx.out]; omega) (by have := HRd.out.len; omega))
      cases he1 : eqL xs d with
      | false =>
        rw [he1] at HS1
        go_upto_region 3 with (first | (go_at_call 84; refine HC.out.mono ?_; rintro e w4 ⟨⟨z, rfl, hz⟩, rfl⟩; have hz' : decide (z ≤ 0) = true := hz) | (go_at_call 21; refine HS1.out.mono ?_; rintro e w5 ⟨rfl, hb5⟩))
        have p1' := bcell1 hb5 p1 (by omega)
        have p8' := bcell1 hb5 k8 (by omega)
        have q1' := bcell1 hb5 q1 (by omega)
        have q2' := bcell1 hb5 q2 (by omega)
        have q3' := bcell1 hb5 q3 (by omega)
        obtain ⟨hin1, hin2, hin3⟩ : (∃ u1, Bk w5 w0.heap.size 27 u1) ∧ (∃ u1, Bk w5 (w0.heap.size + 1) 27 u1) ∧ (∃ u1, Bk w5 (w0.heap.size + 1 + 1) 4 u1) := by
          obtain ⟨v1, v2, h0, h1, h2, h3, h4, h5⟩ := Hin.out.keep (HBW.out.trans (hb5.mono HBW.out.size) |>.mono hlo) (fun g hg => (HBW.out.trans (hb5.mono HBW.out.size)).block g (Hin.out.lt hg).2)
          exact ⟨⟨_, h1⟩, ⟨_, h2⟩, ⟨_, h3⟩⟩
        obtain ⟨u1, hu1⟩ := hin1
        obtain ⟨u2, hu2⟩ := hin2
        obtain ⟨u3, hu3⟩ := hin3
        have fz1 := hu1.free 0
        have fz2 := hu2.free 0
        have fz3 := hu3.free 0
        have HB5 := hide hb5
        clear hb5 hu1 hu2 hu3 p1 k8 q1 q2 q3
        go_region
        have HF := Hin.out.found hlo (HBW.out.trans (HB5.out.mono HBW.out.size)) HV.out HO.out (show Own w5 w.heap.size w5.heap.size (.slice rA n rc) ys from ((HOw.out.below HB5.out).lo (by have := HB.out.size; omega)).hi (by have := HB5.out.size; omega))
        have HF2 := hide HF
        clear HF
        have cF : (((w5.setCell ⟨w0.heap.size, 0, none⟩ (.slice AV n cv)).setCell ⟨w0.heap.size + 1, 0, none⟩ (.slice rA n rc)).setCell ⟨w0.heap.size + 1 + 1, 0, none⟩ (.bool true)).cell? ⟨w0.heap.size + 1 + 1, 0, none⟩ = some (.bool true) := by
          obtain ⟨-, -, ⟨v1, v2, -, -, -, h3, -⟩, -⟩ := HF2.out
          exact (h3.cell 0).trans rfl
        go_wp2
        go_ret
        try rw [hbf, he1]
        obtain ⟨h1, O', h2, h3, h4⟩ := HF2.out
        exact ⟨rfl, h1.drew, O', h2.drew, h3, h4⟩
      | true =>
        rw [he1] at HS1
        have HS2 := Lib.hid (fun W (hW : Below w3.heap.size w3 W) => iSameD (.slice rA n rc) (.slice A1 n c1) ys d W ((RV.mk HR2.out hrc).below hW) ((RV.mk HRd.out hld).below hW) (by rw [Hly.out]; omega) (by have := HRd.out.len; omega))
        cases he2 : eqL ys d with
        | false =>
          rw [he2] at HS2
          go_wp2_with (go_at_call 84; refine HC.out.mono ?_; rintro e w4 ⟨⟨z, rfl, hz⟩, rfl⟩; have hz' : decide (z ≤ 0) = true := hz)
          refine HS1.out.mono ?_
          rintro e w5 ⟨rfl, hb5⟩
          have p3' := bcell1 hb5 p3 (by omega)
          have p8'' := bcell1 hb5 k8 (by omega)
          go_upto_region 3 with (go_at_call 21; refine (HS2.out _ hb5).mono ?_; rintro e w6 ⟨rfl, hb6⟩)
          have hb7 := hb5.trans (hb6.mono hb5.size)
          clear p3' p8''
          have p1' := bcell1 hb7 p1 (by omega)
          have p8' := bcell1 hb7 k8 (by omega)
          have q1' := bcell1 hb7 q1 (by omega)
          have q2' := bcell1 hb7 q2 (by omega)
          have q3' := bcell1 hb7 q3 (by omega)
          obtain ⟨hin1, hin2, hin3⟩ : (∃ u1, Bk w6 w0.heap.size 27 u1) ∧ (∃ u1, Bk w6 (w0.heap.size + 1) 27 u1) ∧ (∃ u1, Bk w6 (w0.heap.size + 1 + 1) 4 u1) := by
            obtain ⟨v1, v2, h0, h1, h2, h3, h4, h5⟩ := Hin.out.keep (HBW.out.trans (hb7.mono HBW.out.size) |>.mono hlo) (fun g hg => (HBW.out.trans (hb7.mono HBW.out.size)).block g (Hin.out.lt hg).2)
            exact ⟨⟨_, h1⟩, ⟨_, h2⟩, ⟨_, h3⟩⟩
          obtain ⟨u1, hu1⟩ := hin1
          obtain ⟨u2, hu2⟩ := hin2
          obtain ⟨u3, hu3⟩ := hin3
          have fz1 := hu1.free 0
          have fz2 := hu2.free 0
          have fz3 := hu3.free 0
          have HB5 := hide hb7
          clear hb7 hu1 hu2 hu3 p1 k8 q1 q2 q3
          go_region
          have HF := Hin.out.found hlo (HBW.out.trans (HB5.out.mono HBW.out.size)) HV.out HO.out (show Own w6 w.heap.size w6.heap.size (.slice rA n rc) ys from ((HOw.out.below HB5.out).lo (by have := HB.out.size; omega)).hi (by have := HB5.out.size; omega))
          have HF2 := hide HF
          clear HF
          have cF : (((w6.setCell ⟨w0.heap.size, 0, none⟩ (.slice AV n cv)).setCell ⟨w0.heap.size + 1, 0, none⟩ (.slice rA n rc)).setCell ⟨w0.heap.size + 1 + 1, 0, none⟩ (.bool true)).cell? ⟨w0.heap.size + 1 + 1, 0, none⟩ = some (.bool true) := by
            obtain ⟨-, -, ⟨v1, v2, -, -, -, h3, -⟩, -⟩ := HF2.out
            exact (h3.cell 0).trans rfl
          go_wp2
          go_ret
          try rw [hbf, he1, he2]
          obtain ⟨h1, O', h2, h3, h4⟩ := HF2.out
          exact ⟨rfl, h1.drew, O', h2.drew, h3, h4⟩
        | true =>
          rw [he2] at HS2
          go_wp2_with (go_at_call 84; refine HC.out.mono ?_; rintro e w4 ⟨⟨z, rfl, hz⟩, rfl⟩; have hz' : decide (z ≤ 0) = true := hz)
          refine HS1.out.mono ?_
          rintro e w5 ⟨rfl, hb5⟩
          have p3' := bcell1 hb5 p3 (by omega)
          have p8'' := bcell1 hb5 k8 (by omega)
          go_upto_region 4 with (go_at_call 21; refine (HS2.out _ hb5).mono ?_; rintro e w6 ⟨rfl, hb6⟩)
          have hb7 := hb5.trans (hb6.mono hb5.size)
          have q3' := bcell1 hb7 q3 (by omega)
          go_wp2
          go_ret
          rw [hbf, he1, he2]
          exact ⟨rfl, Hin.out.stay hlo (HBW.out.trans (hb7.mono HBW.out.size))⟩
end Go.Proofs.Ythpboedpoipkcaa
