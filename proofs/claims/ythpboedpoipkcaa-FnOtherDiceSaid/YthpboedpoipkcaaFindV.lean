/- FindRing's visitor: it collects the dice. Conditions: at most 2^20 dice. -/
import Derived.Test.YthpboedpoipkcaaEach
import Derived.Test.YthpboedpoipkcaaDS
namespace Go.Proofs.Ythpboedpoipkcaa
open Go.ChangeShapes Go.WideShapes Go.ChangeAt Go.RowKit

theorem RV.same {w w' : World} {v : Value} {xs : List Int} (h : RV w v xs) (hs : w.heap.size ≤ w'.heap.size) (hg : ∀ g, v.ownBlock = some g → g < w.heap.size → w'.heap[g]? = w.heap[g]?) : RV w' v xs := by
  obtain ⟨A, c, rfl, hr, hc⟩ := h
  refine ⟨A, c, rfl, hr.keep hs (fun ad e hl p hp => ?_), hc⟩
  subst e
  exact World.cell?_of_block (by rw [hp]; exact hg ad.block rfl hl)

/-- 'append(list, d)', one die; where the row then lies -/
theorem app1D {w : World} {ops : Array Oper} {rest : List Oper} {o : Oper} {a : Act} {Q : Exit → Act → World → Prop} {lo : Nat} {v : Value} {vs : List Value} {A : Option Addr} {n d b : Nat} (hb : b = w.heap.size)
    (hown : w.ownsRow lo 27 1 v vs.length vs) (hn : vs.length ≤ 1048576) (hlo : lo ≤ w.heap.size) (hgd : o.guard = none) {s x : Operand}
    (ho : o.op = .call { callee := .builtin .append, args := #[s, x], argTypes := #[42, 42] })
    (hs : a.eval s = v) (hx : a.eval x = .slice (some ⟨b, 0, none⟩) 1 1)
    (h : ∀ v' w', w'.ownsRow lo 27 1 v' (vs.length + 1) (vs ++ [.slice A n d]) → w.grownBy w' v.ownBlock → (v'.ownBlock = v.ownBlock ∨ v'.ownBlock = some (w.heap.size + 1)) → wpList Try.prog ops Q rest (a.put o.dst v') w') :
    wpList Try.prog ops Q (o :: rest) a (w.alloc (.cells #[.slice A n d] 27)) := by
  subst hb
  obtain ⟨i0, hi, hz0, hz1, hz2⟩ := info_parts info_die
  refine wpList_append_own_at _ hgd s x 42 ho lo 27 i0 (.agg #[.slice none 0 0]) 1 24 Try.underlying42 hi hz0 hz1 hz2 rfl (by decide) v vs.length vs hs (World.ownsRow.alloc hown _) ⟨w.heap.size, 0, none⟩ 1 1 [.slice A n d] hx rfl ?_ ?_ ?_ ?_ ?_ ?_
  · intro j u hj
    match j, hj with
    | 0, hj =>
      simp at hj
      subst hj
      rw [Addr.add_lit, World.cell?_alloc_at _ _ _ _ rfl]
      rfl
  · intro u hu
    simp at hu
    subst hu
    rfl
  · unfold maxLen; omega
  · omega
  · simp; omega
  · intro v' w' h1 h2 _ h4
    refine h v' w' h1 ((World.grownBy_alloc w _ _).trans h2) ?_
    simpa using h4

theorem owns_some {w : World} {lo n : Nat} {e : TypeId} {v : Value} {vs : List Value} (h : w.ownsRow lo e 1 v n vs) (h0 : 0 < n) : ∃ g c, v = .slice (some ⟨g, 0, none⟩) n c := by
  rcases h.2 with ⟨-, h1⟩ | ⟨g, cap, cur, e, -⟩
  · omega
  · exact ⟨g, cap, e⟩
/-- what FindRing has collected: the variable Bc holds a row of its own, whose cells read as the dice -/
def FRi (lo Bc : Nat) (s : List (List Int)) (O : Nat → Prop) (w : World) : Prop :=
  ∃ g c vs, Bk w Bc 42 [.slice (some ⟨g, 0, none⟩) vs.length c] ∧ w.ownsRow lo 27 1 (.slice (some ⟨g, 0, none⟩) vs.length c) vs.length vs ∧ vs.length = s.length ∧
    (∀ k v, vs[k]? = some v → RV w v (s.getD k []) ∧ ∀ b, v.ownBlock = some b → lo ≤ b ∧ b < w.heap.size ∧ b ≠ g ∧ b ≠ Bc) ∧ g ≠ Bc ∧ lo ≤ Bc ∧ ∀ b, O b ↔ (b = Bc ∨ b = g ∨ ∃ v ∈ vs, v.ownBlock = some b)

def frV (lo Bc : Nat) : Vis where
  σ := List (List Int)
  inv := FRi lo Bc
  step := fun s x => s ++ [x]
  go := fun _ _ => true
  good := fun s x => s.length ≤ 1048576 ∧ x.length ≤ 1048576
  f := 72
  cap := #[.pointer (some ⟨Bc, 0, none⟩)]
  lo := lo

theorem FRi.push {lo Bc g c g2 d2 : Nat} {s : List (List Int)} {O : Nat → Prop} {w w2 : World} {r : Value} {xs : List Int} {vs : List Value} {o : Obj} (hB : Bk w Bc 42 [.slice (some ⟨g, 0, none⟩) vs.length c])
    (hl : vs.length = s.length) (hrow : ∀ k v, vs[k]? = some v → RV w v (s.getD k []) ∧ ∀ b, v.ownBlock = some b → lo ≤ b ∧ b < w.heap.size ∧ b ≠ g ∧ b ≠ Bc) (hgB : g ≠ Bc) (hloB : lo ≤ Bc) (hlo : lo ≤ w.heap.size)
    (hgl : lo ≤ g) (hOb : ∀ b, O b ↔ (b = Bc ∨ b = g ∨ ∃ v ∈ vs, v.ownBlock = some b)) (hv : OwnL w lo r xs) (hO : ∀ g, r.ownBlock = some g → ¬ O g)
    (ho : w2.ownsRow lo 27 1 (.slice (some ⟨g2, 0, none⟩) (vs.length + 1) d2) (vs.length + 1) (vs ++ [r])) (hg : (w.alloc o).grownBy w2 (some g)) (hd : g2 = g ∨ g2 = w.heap.size + 2) :
    Below lo w (w2.setCell ⟨Bc, 0, none⟩ (.slice (some ⟨g2, 0, none⟩) (vs.length + 1) d2)) ∧ ∃ O', FRi lo Bc (s ++ [xs]) O' (w2.setCell ⟨Bc, 0, none⟩ (.slice (some ⟨g2, 0, none⟩) (vs.length + 1) d2)) ∧
      (∀ b, b < w.heap.size → ¬ O b → r.ownBlock ≠ some b → (w2.setCell ⟨Bc, 0, none⟩ (.slice (some ⟨g2, 0, none⟩) (vs.length + 1) d2)).heap[b]? = w.heap[b]?) ∧ (∀ b, O' b → O b ∨ w.heap.size ≤ b ∨ r.ownBlock = some b) := by
  have hBl := hB.lt
  have hs1 : (w.alloc o).heap.size = w.heap.size + 1 := by simp
  have hs2 := hg.size
  have hB1 : Below lo w (w.alloc o) := (Below.refl _ _).alloc hlo _
  have hB2 : Below lo w w2 := hB1.grown hg (by omega) (fun k e => by injection e with e; omega)
  have hB3 : Below lo w (w2.setCell ⟨Bc, 0, none⟩ (.slice (some ⟨g2, 0, none⟩) (vs.length + 1) d2)) := hB2.setCell hloB _
  have far1 : ∀ b, b < w.heap.size → b ≠ g → w2.heap[b]? = w.heap[b]? := fun b h1 h2 => (hg.block b (by omega) (fun e => h2 (Option.some.inj e))).trans (Below.heap_alloc _ _ _ h1)
  have far : ∀ b, b < w.heap.size → b ≠ g → b ≠ Bc → (w2.setCell ⟨Bc, 0, none⟩ (.slice (some ⟨g2, 0, none⟩) (vs.length + 1) d2)).heap[b]? = w.heap[b]? := fun b h1 h2 h3 => (Below.heap_setCell _ _ _ _ h3).trans (far1 b h1 h2)
  have hg2B : g2 ≠ Bc := by omega
  have hsz := hB3.size
  have hvb : ∀ b, r.ownBlock = some b → lo ≤ b ∧ b < w.heap.size ∧ b ≠ g ∧ b ≠ Bc := fun b hb => by
    have h1 := hv.lt b hb
    have h2 := hO b hb
    rw [hOb] at h2
    exact ⟨h1.1, h1.2, fun e => h2 (.inr (.inl e)), fun e => h2 (.inl e)⟩
  refine ⟨hB3, fun b => b = Bc ∨ b = g2 ∨ ∃ v ∈ vs ++ [r], v.ownBlock = some b, ⟨g2, d2, vs ++ [r], ?_, ?_, by simp [hl], ?_, hg2B, hloB, fun b => Iff.rfl⟩, ?_, ?_⟩
  · have hb2 : Bk w2 Bc 42 [.slice (some ⟨g, 0, none⟩) vs.length c] := hB.same (far1 _ hBl (fun e => hgB e.symm))
    have := hb2.set 0 (.slice (some ⟨g2, 0, none⟩) (vs.length + 1) d2)
    simpa using this
  · rw [show (vs ++ [r]).length = vs.length + 1 by simp]
    exact ownsRow_setCell_other ho (by simp [Value.ownBlock]; omega) _
  · intro k v hk
    have key : ∀ xs' : List Int, RV w v xs' → (∀ b, v.ownBlock = some b → lo ≤ b ∧ b < w.heap.size ∧ b ≠ g ∧ b ≠ Bc) → RV (w2.setCell ⟨Bc, 0, none⟩ (.slice (some ⟨g2, 0, none⟩) (vs.length + 1) d2)) v xs' ∧
        ∀ b, v.ownBlock = some b → lo ≤ b ∧ b < (w2.setCell ⟨Bc, 0, none⟩ (.slice (some ⟨g2, 0, none⟩) (vs.length + 1) d2)).heap.size ∧ b ≠ g2 ∧ b ≠ Bc := fun xs' h1 h2 =>
      ⟨h1.same hsz fun b hb hl => far b hl (h2 b hb).2.2.1 (h2 b hb).2.2.2, fun b hb => by
        have h3 := h2 b hb
        exact ⟨h3.1, by omega, by omega, h3.2.2.2⟩⟩
    by_cases hlt : k < vs.length
    · rw [List.getElem?_append_left hlt] at hk
      have h1 := hrow k v hk
      rw [show (s ++ [xs]).getD k [] = s.getD k [] by simp [List.getD, List.getElem?_append_left (show k < s.length by omega)]]
      exact key _ h1.1 h1.2
    · rw [List.getElem?_append_right (by omega)] at hk
      obtain ⟨e1, e2⟩ : k - vs.length = 0 ∧ r = v := by
        rcases hq : k - vs.length with _ | q
        · rw [hq] at hk; simpa using hk
        · rw [hq] at hk; simp at hk
      subst e2
      obtain rfl : k = vs.length := by omega
      rw [show (s ++ [xs]).getD vs.length [] = xs by rw [hl]; simp [List.getD]]
      exact key _ hv.own.rv hvb
  · intro b hb hn hr
    rw [hOb] at hn
    exact far b hb (fun e => hn (.inr (.inl e))) (fun e => hn (.inl e))
  · rintro b (rfl | rfl | ⟨v, hv', hb⟩)
    · exact .inl ((hOb _).2 (.inl rfl))
    · rcases hd with rfl | e
      · exact .inl ((hOb _).2 (.inr (.inl rfl)))
      · exact .inr (.inl (by omega))
    · rcases List.mem_append.1 hv' with h1 | h1
      · exact .inl ((hOb _).2 (.inr (.inr ⟨v, h1, hb⟩)))
      · simp at h1
        subst h1
        exact .inr (.inr hb)

set_option maxRecDepth 100000 in
set_option maxHeartbeats 1600000 in
theorem frCall (lo Bc : Nat) (s : List (List Int)) (O : Nat → Prop) (w : World) (v : Value) (xs : List Int) (hin : FRi lo Bc s O w) (hlo : lo ≤ w.heap.size) (hv : OwnL w lo v xs) (hO : ∀ g, v.ownBlock = some g → ¬ O g) (hs : s.length ≤ 1048576) :
    Calls Try.prog 72 #[.agg #[v], .pointer (some ⟨Bc, 0, none⟩)] w fun e w' => e = .returned (.bool true) ∧ Below lo w w' ∧ ∃ O', FRi lo Bc (s ++ [xs]) O' w' ∧
      (∀ g, g < w.heap.size → ¬ O g → v.ownBlock ≠ some g → w'.heap[g]? = w.heap[g]?) ∧ (∀ g, O' g → O g ∨ w.heap.size ≤ g ∨ v.ownBlock = some g) := by
  obtain ⟨g, c, vs, hB, how, hl, hrow, hgB, hloB, hOb⟩ := hin
  obtain ⟨A, d, rfl, -, -, -, -⟩ := hv.own.form
  have hBl := hB.lt
  have c1 := hB.cell 0
  have c2 := hB.free 0
  have how2 := World.ownsRow.alloc how (.cells #[.slice A xs.length d] 27)
  have hne : ∀ m, some Bc ≠ (Value.slice (some ⟨g, 0, none⟩) m c).ownBlock := fun m e => hgB (Option.some.inj e).symm
  have HB := hide hB
  have Hrow := hide hrow
  have HO := hide hO
  have HOb := hide hOb
  have Hv := hide hv
  have Hl := hide hl
  have c3 : w.heap.size < (w.alloc (.cells #[.slice A xs.length d] 27)).heap.size := by simp
  clear hB hrow hO hOb hv hl how
  generalize hn : xs.length = n at *
  generalize hm : vs.length = m at *
  have Hn := hide hn
  have Hm := hide hm
  clear hn hm
  go_enter Try.func72, Try.ntmps72
  go_wp2_with (at_builtin; go_loud (refine app1D (vs := vs) (b := w.heap.size + 1) (by simp) (by rw [Hm.out]; exact how2) (by have := Hm.out; have := Hl.out; omega) (Nat.le_trans hlo (by simp)) rfl rfl rfl rfl ?_; intro v2 w2 ho2 hg2 hd2; have hl2 := (HB.out.alloc (.cells #[.slice A n d] 27)).grown hg2 (hne m); rw [Hm.out] at ho2; obtain ⟨g2, d2, rfl⟩ := owns_some ho2 (by omega); have co2 := hl2.cell 0; have fr2 := hl2.free 0; have HL2 := hide hl2; have HO2 := hide ho2; have HG2 := hide hg2; have HD2 := hide hd2; clear hl2 ho2 hg2 hd2))
  go_ret
  have hgl := (how2.lt g rfl).1
  have h1 := HO2.out
  have h2 := HB.out
  have h3 : Hid (vs.length = m) := Hm
  rw [← Hm.out] at h1 h2
  have hp := FRi.push (g2 := g2) (d2 := d2) h2 (Hm.out.trans Hl.out) Hrow.out hgB hloB hlo hgl HOb.out Hv.out HO.out h1 HG2.out (by
    rcases HD2.out with e | e
    · exact .inl (Option.some.inj e)
    · refine .inr ?_
      have e2 := Option.some.inj e
      simpa using e2)
  rw [Hm.out] at hp
  exact ⟨rfl, hp.1, hp.2⟩

theorem frV_ok (lo Bc : Nat) : (frV lo Bc).Ok where
  ent := fun args w => by
    show (callFunc 72 args).run Try.prog w = _
    go_simp
    rfl
  lt := fun s O w b hin hb => by
    obtain ⟨g, c, vs, hB, how, hl, hrow, hgB, hloB, hOb⟩ := hin
    rcases (hOb b).1 hb with rfl | rfl | ⟨v, hv, e⟩
    · exact ⟨hloB, hB.lt⟩
    · exact how.lt _ rfl
    · obtain ⟨k, hk⟩ := List.getElem?_of_mem hv
      exact ⟨((hrow k v hk).2 b e).1, ((hrow k v hk).2 b e).2.1⟩
  keep := fun s O w w' hin hb hk => by
    obtain ⟨g, c, vs, hB, how, hl, hrow, hgB, hloB, hOb⟩ := hin
    have hs := hb.size
    refine ⟨g, c, vs, hB.same (hk _ ((hOb _).2 (.inl rfl))), owns_of_block how (fun g' e => ?_), hl, fun k v hkv => ?_, hgB, hloB, hOb⟩
    · cases e
      exact hk _ ((hOb _).2 (.inr (.inl rfl)))
    · have h1 := hrow k v hkv
      exact ⟨h1.1.same hs fun b hb' _ => hk b ((hOb _).2 (.inr (.inr ⟨v, List.mem_of_getElem? hkv, hb'⟩))), fun b hb' => by
        have := h1.2 b hb'
        exact ⟨this.1, by omega, this.2.2⟩⟩
  call := fun s O w v xs hin hlo hv hO hg => frCall lo Bc s O w v xs hin hlo hv hO hg.1
theorem frV_run (lo Bc : Nat) (L s : List (List Int)) : (frV lo Bc).run L s = (s ++ L, true) := by
  induction L generalizing s with
  | nil => simp [Vis.run]; rfl
  | cons x L ih =>
    show (frV lo Bc).run L (s ++ [x]) = _
    rw [ih]
    simp
    rfl
theorem frV_fit (lo Bc : Nat) (L : List (List Int)) (hL : L.length ≤ 1048576) (hx : ∀ x ∈ L, x.length ≤ 1048576) : (frV lo Bc).Fit L [] := by
  rintro A x B rfl -
  rw [frV_run]
  simp at hL
  exact ⟨by show ([] ++ A).length ≤ _; simp; omega, hx x (by simp)⟩
end Go.Proofs.Ythpboedpoipkcaa
