/- Contract of the search for the least number of pegs, the program's: a function that calls itself and keeps what it knows in a map. Conditions: at most 14 places. -/
import Derived.Test.YtkbeelbklganaaaPegJ
import Derived.Maps.OwnOps
import Derived.Deep.RegionHeld3
namespace Go.Proofs.Ytkbeelbklganaaa
open Go.ChangeShapes Go.WideShapes Go.ChangeAt Go.RowKit Go.Maps

theorem lawK : Keyed Try.prog 3 := int_keyed Try.underlying3
theorem zeroE (w : World) : (zeroValue 2).run Try.prog w = .ok (.int .i64 0) w := by kernel_rfl
theorem pk_wf {y : Nat} (h : y < 16384) : (Lit.int .i64 (y : Int)).wf = true := WalkArith.wf_i64 (by omega)
theorem pk_of {y : Nat} (h : y < 16384) : keyOf Try.prog 3 (.int .i64 (y : Int)) = some (pk y) := keyOf_int_mk Try.underlying3 (pk_wf h)
/-- the map in block B reads as K, and K is a part of what is sought -/
def KM (w : World) (B n : Nat) (K : DataW Unit) : Prop := w.ownsMap Try.prog 3 (plainElem Try.prog 2) B 20000 K ∧ PInv n K
theorem ownsMap_size {w : World} {B m m' : Nat} {K : DataW Unit} (h : w.ownsMap Try.prog 3 (plainElem Try.prog 2) B m K) (hs : Maps.size K ≤ m') : w.ownsMap Try.prog 3 (plainElem Try.prog 2) B m' K := by
  obtain ⟨es, clock, hb, F, _, rfl⟩ := h
  refine ⟨es, clock, hb, F, ?_, rfl⟩
  simpa [Maps.size, length_sorted] using hs
theorem KM.kept {w w' : World} {B n : Nat} {K : DataW Unit} {row : Option Nat} (h : KM w B n K) (hg : w.grownBy w' row) (hr : some B ≠ row) : KM w' B n K := ⟨h.1.kept hg hr, h.2⟩
theorem KM.below {w w' : World} {B n : Nat} {K : DataW Unit} (h : KM w B n K) (hb : Below w.heap.size w w') : KM w' B n K := h.kept (grown_of_below hb none) (by simp)
theorem KM.drew {w : World} {B n : Nat} {K : DataW Unit} (h : KM w B n K) : KM w.drew B n K := h
theorem KM.ne {w : World} {B n m c : Nat} {A : Option Addr} {K : DataW Unit} {xs : List Value} (h : KM w B n K) (hr : Rd w A m xs) (hm : 0 < m) : ∀ ad, A = some ad → ad.block ≠ B := by
  rintro ad rfl rfl
  obtain ⟨es, clock, hb, _⟩ := h.1
  obtain ⟨ad', u, e, _, _, hc⟩ := hr.at (k := 0) hm
  injection e with e
  subst e
  unfold World.cell? at hc
  rw [add_block, hb] at hc
  simp at hc
theorem cell_kept {w w' : World} {B g i : Nat} {u : Value} (hg : w.grownBy w' (some B)) (h : w.cell? ⟨g, i, none⟩ = some u) (hl : g < w.heap.size) (hn : g ≠ B) : w'.cell? ⟨g, i, none⟩ = some u := by
  rw [World.cell?_of_block (hg.block g hl (fun e => hn (by injection e)))]
  exact h
theorem Rd.keptB {w w' : World} {B n : Nat} {A : Option Addr} {xs : List Value} (h : Rd w A n xs) (hg : w.grownBy w' (some B)) (hn : ∀ ad, A = some ad → ad.block ≠ B) : Rd w' A n xs :=
  h.grown hg fun g ad e ha => by injection e with e; subst e; exact hn ad ha
theorem formN {w : World} {lo hi n : Nat} {v : Value} {xs : List Int} (h : Own w lo hi v xs) (hl : xs.length = n) (h0 : 0 < n) : ∃ g c, v = .slice (some ⟨g, 0, none⟩) n c ∧ n ≤ c ∧ lo ≤ g ∧ g < w.heap.size ∧ ∀ j, j < n → w.cell? ⟨g, j, none⟩ = some (.int .i64 (xs.getD j 0)) := by
  obtain ⟨A, c, e, hc, _, hr, hf⟩ := h.form
  rw [hl] at e hc hr
  obtain ⟨ad, rfl, hb, _⟩ := hr.int (k := 0) h0
  obtain ⟨e2, hlo, _⟩ := hf ad rfl
  refine ⟨ad.block, c, by rw [e]; congr 2, hc, hlo, hb, fun j hj => ?_⟩
  obtain ⟨ad', e3, _, hc'⟩ := hr.int (k := j) hj
  injection e3 with e3
  subst e3
  rw [e2, Addr.add_lit] at hc'
  simpa using hc'
theorem toNk_b (b : List Bool) : (toNk b b.length).testBit = fun i => b.getD i false := funext fun i => bit_all i
/-- what the moves of a board are -/
theorem moves_of {b : List Bool} {n x : Nat} (hb : b.length = n) (hx : toNk b n = x) : mvN n (fun i => b.getD i false) n = flatP (nxP n x) := by
  subst hb hx
  rw [mvN_flat]
  unfold nxP
  rw [toNk_b]
theorem ones_of {b : List Bool} {n x : Nat} (hb : b.length = n) (hx : toNk b n = x) : cntT (fun i => b.getD i false) n = ones n x := by
  subst hb hx
  unfold ones
  rw [toNk_b]
/-- what a call of the search answers -/
def LeastPost (n B x : Nat) (w : World) (K : DataW Unit) (e : Ending) (w' : World) : Prop :=
  ∃ K', e = .returned (.int .i64 (Lst n x : Int)) ∧ KM w' B n K' ∧ (∀ y, hkB K y = true → hkB K' y = true) ∧ hkB K' x = true ∧ (∀ y, hkB K' y = true → hkB K y = true ∨ Reach n x y) ∧ w.grownBy w' (some B)
/-- behind the first j moves -/
def Part (n B x j : Nat) (w : World) (K : DataW Unit) (wr : World) : Prop :=
  ∃ K', KM wr B n K' ∧ (∀ y, hkB K y = true → hkB K' y = true) ∧ (∀ i, i < j → hkB K' ((nx n x).getD i 0) = true) ∧ (∀ y, hkB K' y = true → hkB K y = true ∨ Reach n x y) ∧ w.grownBy wr (some B)
theorem Part.start {n B x : Nat} {w : World} {K : DataW Unit} (h : KM w B n K) : Part n B x 0 w K w := ⟨K, h, fun _ h => h, fun i h => absurd h (by omega), fun _ h => .inl h, World.grownBy.refl _ _⟩
theorem Part.step {n B x j : Nat} {w wr w' w2 : World} {K K1 K2 : DataW Unit} (hK : KM wr B n K1) (h2 : ∀ y, hkB K y = true → hkB K1 y = true) (h3 : ∀ i, i < j → hkB K1 ((nx n x).getD i 0) = true) (h4 : ∀ y, hkB K1 y = true → hkB K y = true ∨ Reach n x y) (h5 : w.grownBy wr (some B))
    (hj : j < (nx n x).length) (hg : wr.grownBy w' (some B)) (g1 : KM w2 B n K2) (g2 : ∀ y, hkB K1 y = true → hkB K2 y = true) (g3 : hkB K2 ((nx n x).getD j 0) = true) (g4 : ∀ y, hkB K2 y = true → hkB K1 y = true ∨ Reach n ((nx n x).getD j 0) y) (g5 : w'.grownBy w2 (some B)) :
    Part n B x (j + 1) w K w2 := by
  refine ⟨K2, g1, fun y hy => g2 y (h2 y hy), fun i hi => ?_, fun y hy => ?_, (h5.trans hg).trans g5⟩
  · by_cases e : i = j
    · subst e; exact g3
    · exact g2 _ (h3 i (by omega))
  · rcases g4 y hy with h | h
    · exact h4 y h
    · exact .inr (h.step (by simp [List.getD, hj]))
theorem all_nx {n x : Nat} {K : DataW Unit} (h : ∀ i, i < (nx n x).length → hkB K ((nx n x).getD i 0) = true) : ∀ z ∈ nx n x, hkB K z = true := fun z hz => by
  obtain ⟨j, hj, rfl⟩ := List.getElem_of_mem hz
  have := h j hj
  simpa [List.getD, hj] using this
theorem done_put {n x : Nat} {K K1 : DataW Unit} (hx : x < 2 ^ n) (h1 : PInv n K1) (h2 : ∀ y, hkB K y = true → hkB K1 y = true) (h3 : ∀ i, i < (nx n x).length → hkB K1 ((nx n x).getD i 0) = true) (h4 : ∀ y, hkB K1 y = true → hkB K y = true ∨ Reach n x y) :
    PInv n (K1.put (pk x) (.lit (.int .i64 (Lst n x : Int)))) ∧ (∀ y, hkB K y = true → hkB (K1.put (pk x) (.lit (.int .i64 (Lst n x : Int)))) y = true) ∧ hkB (K1.put (pk x) (.lit (.int .i64 (Lst n x : Int)))) x = true ∧
      ∀ y, hkB (K1.put (pk x) (.lit (.int .i64 (Lst n x : Int)))) y = true → hkB K y = true ∨ Reach n x y := by
  have hm := h1.1.isMap
  refine ⟨h1.put hx (all_nx h3), fun y hy => ?_, ?_, fun y hy => ?_⟩
  · rw [hkB_put hm]
    by_cases e : y = x
    · subst e; exact updT_at _ _ _
    · rw [updT_ne e]; exact h2 y hy
  · rw [hkB_put hm]; exact updT_at _ _ _
  · rw [hkB_put hm] at hy
    by_cases e : y = x
    · subst e; exact .inr (Reach.refl n y)
    · rw [updT_ne e] at hy; exact h4 y hy

set_option maxRecDepth 100000 in
set_option maxHeartbeats 3200000 in
theorem iLeast (n B : Nat) (hn : 1 ≤ n) (h14 : n ≤ 14) : ∀ (k x : Nat) (b : List Bool) (ad : Addr) (c : Nat) (w : World) (K : DataW Unit), ones n x < k → b.length = n → toNk b n = x → Rd w (some ad) n (bv b) → KM w B n K →
    Calls Try.prog 60 #[.slice (some ad) n c, .map (some B)] w (LeastPost n B x w K)
  | 0, x, b, ad, c, w, K, h, _, _, _, _ => absurd h (by omega)
  | k + 1, x, b, ad, c, w, K, hk, hb, hx, hr, hK => by
    have hpow : 2 ^ n ≤ 16384 := by
      have : 2 ^ n ≤ 2 ^ 14 := Nat.pow_le_pow_right (by omega) h14
      omega
    have hx2 : x < 2 ^ n := by rw [← hx]; exact toNk_lt b n
    have hx14 : x < 16384 := by omega
    have IH := Lib.hid (iLeast n B hn h14 k)
    have HK := Lib.hid (fun W h => iKey (some ad) n c b W h h14)
    have hkey := pk_of hx14
    have hown := hK.1
    have hlt := hown.lt
    cases hq : hkB K x with
    | true =>
      have hat := hK.2.2.2.2.1 x hq
      have HKM := hide hK
      have hq' : Maps.has K (pk x) = true := hq
      have Hq := hide hq
      rw [hx] at HK
      clear hq hK IH
      go_enter Try.func60, Try.ntmps60
      go_wp2_with fail
      refine (HK.out _ hr).mono ?_
      rintro e w' ⟨rfl, rfl⟩
      go_wp2_with (at_lookup; refine wpList_lookup_own_ok_int _ rfl _ _ 65 rfl 3 2 .i64 lawK Try.underlying65 Try.underlying2 (zeroE _) B 20000 K rfl hown _ _ rfl hkey ?_; intro v hv hwv; rw [hq'])
      go_ret
      have e1 : v = (Lst n x : Int) := by
        rw [hat] at hv
        injection hv with hv
        injection hv with _ hv
        exact hv.symm
      exact ⟨K, by subst e1; rfl, HKM.out, fun _ h => h, Hq.out, fun _ h => .inl h, World.grownBy.refl _ _⟩
    | false =>
      have hM := moves_of hb hx
      have hO := ones_of hb hx
      have HM := Lib.hid (fun W h => iMoves (some ad) n c b W h h14)
      rw [hM] at HM
      have hj : ∀ j, j < (nxP n x).length → ∃ f t : Nat, (flatP (nxP n x)).getD (2 * j) 0 = (f : Int) ∧ (flatP (nxP n x)).getD (2 * j + 1) 0 = (t : Int) ∧ f < n ∧ t < n ∧ mvd x f t = (nx n x).getD j 0 := fun j hj => by
        have hp := mvP_ok (Nat.le_refl n) ((nxP n x).getD j (0, 0)) (by show _ ∈ nxP n x; simp [List.getD, hj])
        obtain ⟨g1, g2⟩ := flatP_get hj
        exact ⟨_, _, g1, g2, hp.1, hp.2.1, (nx_get hj).symm⟩
      have HJ := Lib.hid (fun W f t h hf ht => iJumped ad n c f t b W h h14 hf ht)
      have hjm : ∀ f t, f < n → t < n → toNk (jmpB b f t) n = mvd x f t := fun f t hf ht => by subst hb hx; exact toNk_jmp hf ht
      have hML := flatP_len (nxP n x)
      have hNL := nx_len n x
      have hnl : (nxP n x).length ≤ 56 := by
        have := mvN_len n x.testBit n
        rw [mvN_flat, flatP_len] at this
        show (mvP n x.testBit n).length ≤ 56
        omega
      have HPS := Lib.hid (fun j (h : j < (nx n x).length) => Lpt_succ h)
      have HPA := hide (Lpt_all n x)
      have HP0 := hide (Lpt_zero n x)
      have HPL := Lib.hid (fun j => Lpt_le n x j)
      have HLL := Lib.hid (fun y => Lst_le n y)
      have hon : ones n x ≤ 14 := Nat.le_trans (cntT_le _ _) h14
      have hq' : Maps.has K (pk x) = false := hq
      have HKM := hide hK
      have Hx2 := hide hx2
      have HB := hide hb
      have HO := hide hO
      have Hj := Lib.hid hj
      have Hjm := Lib.hid hjm
      have HC : Hid (∀ k, cntT (fun i => b.getD i false) (k + 1) = cntT (fun i => b.getD i false) k + (if b.getD k false = true then 1 else 0)) := hide fun k => rfl
      have HC0 : Hid (cntT (fun i => b.getD i false) 0 = 0) := hide rfl
      have HCL : Hid (∀ k, cntT (fun i => b.getD i false) k ≤ k) := hide fun k => cntT_le _ _
      have Hne := Lib.hid (hK.ne (c := c) hr (by omega) ad rfl)
      rw [hx] at HK
      rw [hNL] at HPS HPA
      have HNL := hide hNL
      clear hq hK hM hO hb hx hj hjm hx2 hNL
      generalize cntT (fun i => b.getD i false) = C at *
      generalize hfp : flatP (nxP n x) = F at *
      clear hfp
      generalize (nxP n x).length = M at *
      go_enter Try.func60, Try.ntmps60
      go_wp2_with fail
      refine (HK.out _ hr).mono ?_
      rintro e w' ⟨rfl, rfl⟩
      go_wp2_with (at_lookup; refine wpList_lookup_own_ok_int _ rfl _ _ 65 rfl 3 2 .i64 lawK Try.underlying65 Try.underlying2 (zeroE _) B 20000 K rfl hown _ _ rfl hkey ?_; intro v hv hwv; rw [hq']; clear hv hwv)
      go_loop [8, 25] (fun r i => ∃ k : Nat, k ≤ n ∧ i = .int .i64 k ∧ r = .int .i64 ((C k : Nat) : Int)) (fun _ i => n - (intOf i).toNat)
      case atStart => exact ⟨0, Nat.zero_le _, rfl, by rw [HC0.out]; rfl⟩
      case round =>
        obtain ⟨k, hk, rfl, rfl⟩ := hrel
        have hcl := HCL.out k
        by_cases hlt2 : k < n
        · obtain ⟨_, e1, _, ck⟩ := hr.bool (k := k) hlt2
          obtain rfl := Option.some.inj e1
          have hs := HC.out k
          cases hbk : b.getD k false with
          | true =>
            rw [hbk] at ck hs
            have Hs := hide hs
            clear hs hbk
            go_wp2
            go_round
            case rel => exact ⟨k + 1, by omega, by go_num, by rw [Hs.out]; go_num⟩
            case measure => simp [intOf]; omega
          | false =>
            rw [hbk] at ck hs
            have Hs := hide hs
            clear hs hbk
            go_wp2
            go_round
            case rel => exact ⟨k + 1, by omega, by go_num, by rw [Hs.out]; go_num⟩
            case measure => simp [intOf]; omega
        · obtain rfl : n = k := by omega
          have hOn := HO.out
          rw [hOn]
          clear hOn
          go_wp2_with fail
          refine (HM.out _ hr).mono ?_
          rintro e w2 ⟨r, rfl, ho, hb2⟩
          have z2 := hb2.size
          have Hr2 := hide (hr.below hb2)
          have HK2 := hide (HKM.out.below hb2)
          obtain ⟨m2, hm2⟩ : ∃ m2, m2 = 2 * M := ⟨_, rfl⟩
          rw [← hm2] at hML
          have hF : Hid (∃ A g cap, r = .slice A m2 cap ∧ (0 < m2 → A = some ⟨g, 0, none⟩ ∧ w.heap.size ≤ g ∧ g < w2.heap.size ∧ ∀ j, j < m2 → w2.cell? ⟨g, j, none⟩ = some (.int .i64 (F.getD j 0)))) := hide (by
            obtain ⟨A, cc, e, _, _, hr3, hf3⟩ := ho.form
            rw [hML] at e hr3
            by_cases h0 : 0 < m2
            · obtain ⟨g, cc, e, _, h1, h2, h3⟩ := formN ho hML h0
              exact ⟨_, g, cc, e, fun _ => ⟨rfl, h1, h2, h3⟩⟩
            · exact ⟨A, 0, cc, e, fun h => absurd h h0⟩)
          obtain ⟨A, g, cap, rfl, hFm⟩ := hF.out
          have HFm := hide hFm
          have Hb2 := hide hb2
          have Hm2 := hide hm2
          have hm112 : m2 ≤ 112 := by omega
          clear hFm hF ho hb2 hML hm2
          go_wp2
          go_loopw [8, 12] (fun r i wr => ∃ j q : Nat, j ≤ M ∧ Hid (q = 2 * j) ∧ i = .int .i64 (q : Int) ∧ r = .int .i64 ((Lpt n x j : Nat) : Int) ∧ Hid (Part n B x j w2 K wr)) (fun _ i _ => m2 + 1 - (intOf i).toNat)
          case atStart => exact ⟨0, 0, Nat.zero_le _, hide rfl, rfl, by rw [HP0.out], hide (Part.start HK2.out)⟩
          case round =>
            obtain ⟨j, q, hjM, Hq, rfl, rfl, hP⟩ := hrel
            have hpl := HPL.out j
            by_cases hjl : j < M
            · have hq2 := Hq.out
              have hm2 := Hm2.out
              have f0 : (0 : Int) ≤ (q : Int) := by omega
              have f1 : (q : Int) < (m2 : Int) := by omega
              have f2 : (0 : Int) ≤ (q : Int) + 1 := by omega
              have f3 : (q : Int) + 1 < (m2 : Int) := by omega
              have f4 : IntKind.i64.wrap ((q : Int) + 1) = (q : Int) + 1 := IntWalk.i64_in _ (by omega)
              have e2 : ((q : Int) + 1).toNat = q + 1 := by omega
              obtain ⟨rfl, hg1, hg2, hcell⟩ := HFm.out (by omega)
              obtain ⟨f, t, hf1, ht1, hfn, htn, hmv⟩ := Hj.out j hjl
              have c1 := hcell q (by omega)
              have c2 := hcell (q + 1) (by omega)
              rw [hq2, hf1, ← hq2] at c1
              rw [hq2, ht1, ← hq2] at c2
              obtain ⟨K1, k1, k2, k3, k4, k5⟩ := hP.out
              have hgB : g ≠ B := by omega
              have d1 := cell_kept k5 c1 hg2 hgB
              have d2 := cell_kept k5 c2 hg2 hgB
              have hrr := Hr2.out.keptB k5 (fun ad' e => by injection e with e; subst e; exact Hne.out)
              have hg3 : g < wr.heap.size := Nat.lt_of_lt_of_le hg2 k5.size
              have hs := HPS.out j hjl
              have hLm := HLL.out (mvd x f t)
              have hpn : x < 2 ^ n := Hx2.out
              have hok : ones n (mvd x f t) < k := by
                have h1 : mvd x f t ∈ nx n x := by rw [hmv]; have := HNL.out; simp [List.getD, show j < (nx n x).length by omega]
                have := nx_ones h1
                omega
              have hJl : (jmpB b f t).length = n := by rw [jmpB_len]; exact HB.out
              have hJk := Hjm.out f t hfn htn
              have HJx := hide (And.intro hok (And.intro hJl hJk))
              rw [← hmv] at hs
              have Hs := hide hs
              have Hmv := hide hmv
              have Hhk := hide hk
              clear hs hmv hf1 ht1 hok hJl hJk c1 c2 hcell hk hq2 hm2
              generalize Lpt n x j = lj at *
              go_wp2
              go_region_held3 (fun w' => w'.cell? ⟨g, q, none⟩ = some (.int .i64 (f : Int)) ∧ w'.cell? ⟨g, q + 1, none⟩ = some (.int .i64 (t : Int)))
                (first
                  | exact ⟨d1, d2⟩
                  | exact ⟨(hb3.cell (p := ⟨g, _, none⟩) hg3).trans d1, (hb3.cell (p := ⟨g, _, none⟩) hg3).trans d2⟩
                  | exact ⟨cell_kept p5 ((hb3.cell (p := ⟨g, _, none⟩) hg3).trans d1) (Nat.lt_of_lt_of_le hg3 hb3.size) hgB, cell_kept p5 ((hb3.cell (p := ⟨g, _, none⟩) hg3).trans d2) (Nat.lt_of_lt_of_le hg3 hb3.size) hgB⟩
                  | go_keep)
                ((first
                  | (go_at_call 72; refine (HJ.out _ f t ?_ hfn htn).mono ?_; exact hrr; rintro e wj ⟨g3, c3, rfl, hr3, hb3⟩)
                  | (go_at_call 60; refine (IH.out (mvd x f t) (jmpB b f t) ⟨g3, 0, none⟩ c3 _ K1 HJx.out.1 HJx.out.2.1 HJx.out.2.2 hr3 ?_).mono ?_; exact KM.below (KM.drew k1) hb3; rintro e w4 hpost; obtain ⟨K2, rfl, p1, p2, p3, p4, p5⟩ := hpost)))
              go_wp2
              go_roundw
              case rel =>
                refine ⟨j + 1, q + 2, by omega, hide (by have := Hq.out; omega), by go_num, ?_, hide ?_⟩
                · rw [Hs.out]
                  congr 1
                  omega
                · exact Part.step k1 k2 k3 k4 k5 (by rw [HNL.out]; exact hjl) ((show wr.grownBy wr.drew (some B) from ⟨rfl, rfl, rfl, Nat.le_refl _, fun _ _ _ => rfl⟩).trans (grown_of_below hb3 (some B))) p1 p2 (by rw [← Hmv.out]; exact p3) (by rw [← Hmv.out]; exact p4) p5
              case measure => simp [intOf]; omega
            · have hjM2 : j = M := by omega
              have hq2 := Hq.out
              have hm2 := Hm2.out
              have e0 : q = m2 := by omega
              have hM2 := hide hjM2
              clear hq2 hm2 Hq Hm2
              subst e0 hjM2
              obtain ⟨K1, k1, k2, k3, k4, k5⟩ := hP.out
              have hpa := HPA.out
              rw [hpa]
              clear hpa
              have hown1 := k1.1
              have hfin := hide (done_put Hx2.out k1.2 k2 (by rw [HNL.out]; exact k3) k4)
              have hwf : (Lit.int .i64 (Lst n x : Int)).wf = true := WalkArith.wf_i64 (by have := HLL.out x; omega)
              go_wp2_with (at_mapUpdate; refine wpList_mapUpdate_own _ rfl _ _ _ 65 rfl 3 2 lawK Try.underlying65 _ B 20000 K1 rfl hown1 (by unfold maxLen; omega) _ _ _ rfl rfl hkey _ [] (plainElem_int Try.underlying2 hwf) ?_; intro w5 hown5 hg5)
              go_ret
              exact ⟨_, rfl, ⟨ownsMap_size hown5 (by have := hfin.out.1.size h14; omega), hfin.out.1⟩, hfin.out.2.1, hfin.out.2.2.1, hfin.out.2.2.2, ((grown_of_below Hb2.out (some B)).trans k5).trans hg5⟩
end Go.Proofs.Ytkbeelbklganaaa
