/- The walk of the law FnHeaps. Conditions: none. -/
import Derived.Test.YtajpieblbijciaaHeapsQ
import Derived.Test.YtajpieblbijciaaR8H
import Derived.Deep.RegionHeld3
namespace Go.Proofs.Ytajpieblbijciaa
open Go.ChangeShapes Go.WideShapes Go.ChangeAt Go.RowKit

theorem mex_nil : mex [] = 0 := by decide +kernel
theorem tv_zero {ms : List Int} {K : Nat} (hK : 0 < K) (hp : ∀ m ∈ ms, 1 ≤ m) : (tvTo ms K).getD 0 0 = 0 := by
  rw [tv_mex hK hp]
  have : tvL ms (tvTo ms K) 0 ms.length = [] := by
    unfold tvL
    rw [List.map_eq_nil_iff, List.filter_eq_nil_iff]
    intro m hm
    have := hp m (List.mem_of_mem_take hm)
    simp
    omega
  rw [this, mex_nil]
  rfl
theorem sv_zero {K : Nat} (hK : 0 < K) : (svTo K).getD 0 0 = 0 := by
  rw [sv_mex hK]
  have : svT (svTo K) 0 2 = [] := by simp [svT, svR]
  rw [this, mex_nil]
  rfl
theorem formN {w : World} {lo hi n : Nat} {v : Value} {xs : List Int} (h : Own w lo hi v xs) (hl : xs.length = n) (h0 : 0 < n) : ∃ g c, v = .slice (some ⟨g, 0, none⟩) n c ∧ n ≤ c ∧ g < w.heap.size ∧ ∀ j, j < n → w.cell? ⟨g, j, none⟩ = some (.int .i64 (xs.getD j 0)) := by
  obtain ⟨A, c, e, hc, _, hr, hf⟩ := h.form
  rw [hl] at e hc hr
  obtain ⟨ad, rfl, hb, _⟩ := hr.int (k := 0) h0
  obtain ⟨e2, _, _⟩ := hf ad rfl
  refine ⟨ad.block, c, by rw [e]; congr 2, hc, hb, fun j hj => ?_⟩
  obtain ⟨ad', e3, _, hc'⟩ := hr.int (k := j) hj
  injection e3 with e3
  subst e3
  rw [e2, Addr.add_lit] at hc'
  simpa using hc'
theorem hx_app (vals hs : List Int) (x : Int) : hxTo vals (hs ++ [x]) (hs.length + 1) = bits .xor .i64 (hxTo vals hs hs.length) (vals.getD x.toNat 0) := by
  have e : ∀ k, k ≤ hs.length → hxTo vals (hs ++ [x]) k = hxTo vals hs k := fun k => by
    induction k with
    | zero => intro _; rfl
    | succ k ih =>
      intro h
      rw [hxTo, hxTo, ih (by omega), getD_app, if_pos (by omega)]
  rw [hxTo, e _ (Nat.le_refl _), getD_app, if_neg (by omega), if_pos rfl]
theorem rHasV (v : Value) (xs : List Int) (x : Int) (w : World) (hv : RV w v xs) (hn : xs.length ≤ 1048576) :
    Calls Try.prog 31 #[v, .int .i64 x] w fun e w' => e = .returned (.bool (hasI xs x)) ∧ w = w' := by
  obtain ⟨A, c, rfl, hr, _⟩ := hv
  exact rHas A _ c xs x w hr hn
theorem rdU_below {w w' : World} {A : Option Addr} {n : Nat} {xs : List Int} (h : RdU w A n xs) (hb : Below w.heap.size w w') : RdU w' A n xs := h.below hb

set_option maxRecDepth 100000 in
set_option maxHeartbeats 6400000 in
theorem lawHeaps (A0 A1 : Option Addr) (c0 c1 : Nat) (x0 x1 : List Int) (w : World) (hr0 : RdU w A0 x0.length x0) (hr1 : RdU w A1 x1.length x1) :
    Calls Try.prog 10 #[.slice A0 x0.length c0, .slice A1 x1.length c1] w fun e w' => e = .returned (.bool true) ∧ Below w.heap.size w w' := by
  have HL := Lib.hid (fun W => rLong A0 A1 x0.length x1.length c0 c1 W)
  by_cases hlong : 48 < x0.length ∨ 48 < x1.length
  · have e : (decide (48 < x0.length) || decide (48 < x1.length)) = true := by simpa using hlong
    rw [e] at HL
    clear hlong e hr0 hr1
    go_enter Try.func10, Try.ntmps10
    go_wp2_with (go_at_call 29; refine (HL.out _).mono ?_; rintro e w' ⟨rfl, rfl⟩)
    go_ret
    exact ⟨rfl, Below.refl _ _⟩
  have e : (decide (48 < x0.length) || decide (48 < x1.length)) = false := by simp; omega
  rw [e] at HL
  have hn0 : x0.length ≤ 48 := by omega
  have hn1 : x1.length ≤ 48 := by omega
  have HC0 := Lib.hid (fun W i k (hb : Below w.heap.size w W) a b c d => rAt A0 x0.length c0 x0 i k W (hr0.below hb) hn0 a b c d)
  have HC1 := Lib.hid (fun W i k (hb : Below w.heap.size w W) a b c d => rAt A1 x1.length c1 x1 i k W (hr1.below hb) hn1 a b c d)
  clear hlong e hr0 hr1 hn0 hn1
  generalize x0.length = n0 at *
  generalize x1.length = n1 at *
  go_enter Try.func10, Try.ntmps10
  go_wp2_with (go_at_call 29; refine (HL.out _).mono ?_; rintro e w' ⟨rfl, rfl⟩)
  go_loopw [5, 6, 7] (fun m a i wr => ∃ (ms : List Int) (t : Int), i = .int .i64 ms.length ∧ ms.length ≤ 4 ∧ a = .int .i64 t ∧ 0 ≤ t ∧ t ≤ 3 * (ms.length : Int) ∧ Hid (MV ms t) ∧ OwnL wr w.heap.size m ms ∧ Below w.heap.size w wr) (fun _ _ i _ => 5 - (intOf i).toNat)
  case atStart => exact ⟨[], 0, rfl, by simp, rfl, by omega, by simp, hide MV_nil, OwnL.empty _ _ rfl (Nat.le_refl _), (Below.refl _ _).alloc (Nat.le_refl _) _⟩
  case round =>
    obtain ⟨ms, t, rfl, hm4, rfl, ht0, ht3, hMV, ho, hb⟩ := hrel
    go_wp2_with fail
    refine (HC1.out _ 40 4 hb (by omega) (by omega) (by omega) (by omega)).mono ?_
    rintro e w' ⟨⟨v, rfl, hv⟩, rfl⟩
    have hv3 : (v : Int) ≤ 3 := by omega
    clear hv
    by_cases hlt : (ms.length : Int) < 1 + (v : Int)
    · have hm3 : ms.length ≤ 3 := by omega
      go_wp2_with fail
      refine (HC0.out _ (ms.length : Int) 3 hb (by omega) (by omega) (by omega) (by omega)).mono ?_
      rintro e w' ⟨⟨d, rfl, hd⟩, rfl⟩
      have hd3 : (d : Int) ≤ 2 := by omega
      clear hd
      have hz := hb.size
      have HMV := hide (MV_app (x := t + (1 + (d : Int))) hMV.out (by omega) (by omega) (by omega))
      have HLen : Hid ((ms ++ [t + (1 + (d : Int))]).length = ms.length + 1) := hide (by simp)
      have hm5 : ms.length ≤ 1048576 := by omega
      go_wp2_with (at_builtin; refine app1 ho hm5 hz rfl rfl rfl rfl ?_; intro v' w3 ho3 hg3)
      go_roundw
      case rel => exact ⟨_, t + (1 + (d : Int)), by rw [HLen.out]; go_num, by rw [HLen.out]; omega, rfl, by omega, by rw [HLen.out]; omega, HMV, ho3, hb.grown hg3 hz (fun j hj => (ho.lt j hj).1)⟩
      case measure => simp [intOf]; omega
    · have hm1 : 1 ≤ ms.length := by omega
      have hMB := MV_moves hMV.out hm1 (by omega)
      clear hMV ht0 ht3
      have hvm := ho.own.rv
      obtain ⟨gm, dm, rfl, hdm, hgm, hcm⟩ := formN ho.own rfl (show 0 < ms.length by omega)
      have HMc := Lib.hid (fun W (h : Below wr.heap.size wr W) j (hj : j < ms.length) => (h.cell (p := ⟨gm, j, none⟩) hgm).trans (hcm j hj))
      have Hpos := hide (movesB_of hMB).2.2
      have dq0 : decide ((ms.length : Int) < 1 + (v : Int)) = false := decide_eq_false hlt
      go_wp2_with fail
      refine (HC1.out _ 41 30 hb (by omega) (by omega) (by omega) (by omega)).mono ?_
      clear dq0
      rintro e w' ⟨⟨n, rfl, hn⟩, rfl⟩
      have hn29 : n ≤ 29 := by omega
      clear hn
      have hwf : (Lit.int .i64 (n : Int)).wf = true := WalkArith.wf_i64 (by omega)
      have HTV := Lib.hid (fun V W (h : RV W V ms) => iTakeValues V ms (n : Int) W h (by omega) hwf)
      have HSV := Lib.hid (fun W => iSplitValues (n : Int) W hwf)
      have hRT : RTakeValues ms (n : Int) = (tvTo ms (n + 1), true) := by
        rw [RTakeValues, if_pos (by unfold takeOk; rw [hMB, inB_t (by omega)]; rfl)]
        rfl
      have hRS : RSplitValues (n : Int) = (svTo (n + 1), true) := by
        rw [RSplitValues, if_pos (by unfold svOk; exact inB_t (by omega))]
        rfl
      rw [hRT] at HTV
      rw [hRS] at HSV
      have P0 := hide (And.intro (tv_zero (ms := ms) (K := n + 1) (by omega) (moves_pos hMB)) (sv_zero (K := n + 1) (by omega)))
      have P2 := hide (fun k (h : k < n + 1) => tv_mex (ms := ms) h (moves_pos hMB))
      have P3 := hide (fun k (h : k < n + 1) => sv_mex h)
      have P4 := Lib.hid (fun hs h1 h4 hin => heap_facts (ms := ms) (hs := hs) (n := n) hMB hm4 h1 h4 hn29 hin)
      have hl1 := tvTo_len ms (n + 1)
      have hl2 := svTo_len (n + 1)
      generalize tvTo ms (n + 1) = vals at *
      generalize svTo (n + 1) = rows at *
      have hz0 := hb.size
      clear hRT hRS hwf hMB ho hcm
      go_wp2_with fail
      refine (HTV.out _ _ hvm).mono ?_
      rintro e w2 ⟨r1, rfl, F1, b2⟩
      have z2 := b2.size
      go_wp2_with fail
      refine (HSV.out _).mono ?_
      rintro e w3 ⟨r2, rfl, F2, b3⟩
      have z3 := b3.size
      have b23 := b2.trans (b3.mono z2)
      have HB3 := hide (hb.trans (b23.mono hz0))
      have F1 := F1.below b3
      have hvm := hvm.below b23
      have HVM := hide hvm
      have HMc : Hid (∀ W, Below w3.heap.size w3 W → ∀ j, j < ms.length → W.cell? ⟨gm, j, none⟩ = some (.int .i64 (ms.getD j 0))) := hide fun W h j hj => HMc.out W (b23.trans (h.mono b23.size)) j hj
      obtain ⟨gv, dv, rfl, hdv, hgv, hcv⟩ := formN F1 hl1 (by omega)
      obtain ⟨gr, dr, rfl, hdr, hgr, hcr⟩ := formN F2 hl2 (by omega)
      have HVc := Lib.hid (fun W (h : Below w3.heap.size w3 W) j (hj : j < n + 1) => (h.cell (p := ⟨gv, j, none⟩) hgv).trans (hcv j hj))
      have HRc := Lib.hid (fun W (h : Below w3.heap.size w3 W) j (hj : j < n + 1) => (h.cell (p := ⟨gr, j, none⟩) hgr).trans (hcr j hj))
      have c1 := hcv 0 (by omega)
      have c2 := hcr 0 (by omega)
      rw [P0.out.1] at c1
      rw [P0.out.2] at c2
      have hgm3 : gm < w3.heap.size := by omega
      clear HTV HSV F1 F2 b2 b3 hb hcv hcr hvm P0 b23
      have hm4' := hm4
      have hm1' := hm1
      generalize hLL : ms.length = L at *
      have HLL := hide hLL
      clear hLL hlt
      go_wp2
      go_loopw [13] (fun i wr => ∃ k : Nat, k ≤ n + 1 ∧ i = .int .i64 k ∧ Below w3.heap.size w3 wr) (fun i _ => n + 2 - (intOf i).toNat)
      case atStart => exact ⟨0, by omega, rfl, Below.refl _ _⟩
      case round =>
        obtain ⟨k, hk, rfl, hbk⟩ := hrel
        clear c1 c2
        obtain ⟨wk, rfl⟩ : ∃ wk : World, wk = wr := ⟨_, rfl⟩
        by_cases hkn : k < n + 1
        · have dk1 : decide ((k : Int) ≤ (n : Int)) = true := decide_eq_true (by omega)
          have dk2 : decide (k ≤ n) = true := decide_eq_true (by omega)
          have hzk := hbk.size
          go_wp2
          go_loopw [14, 15] (fun l i wr => ∃ j : Nat, j ≤ L ∧ i = .int .i64 j ∧ OwnL wr wk.heap.size l (tvL ms vals k j) ∧ Below wk.heap.size wk wr) (fun _ i _ => L - (intOf i).toNat)
          case atStart => exact ⟨0, Nat.zero_le _, rfl, by rw [tvL_zero]; exact OwnL.empty _ _ rfl (Nat.le_refl _), (Below.refl _ _).alloc (Nat.le_refl _) _⟩
          case round =>
            obtain ⟨j, hj, rfl, hl, hbj⟩ := hrel
            by_cases hjL : j < L
            · have b3j := hbk.trans (hbj.mono hzk)
              have m1 := HMc.out _ b3j j hjL
              have hp := Hpos.out j (by first | exact hjL | (rw [HLL.out]; exact hjL))
              have hln := tvL_len ms vals k j
              have hzj := hbj.size
              obtain ⟨mn, hmn⟩ : ∃ mn : Nat, ms.getD j 0 = (mn : Int) := ⟨(ms.getD j 0).toNat, by omega⟩
              by_cases hle : mn ≤ k
              · have v1 := HVc.out _ b3j (k - mn) (by omega)
                have Hs : Hid (tvL ms vals k (j + 1) = tvL ms vals k j ++ [vals.getD (k - mn) 0]) := hide (by
                  rw [tvL_yes (by rw [HLL.out]; exact hjL) (by rw [hmn]; omega), hmn]
                  rfl)
                rw [hmn] at m1 hp
                clear hmn b3j
                have q1 : ((k : Int) - (mn : Int)).toNat = k - mn := by omega
                have q2 : (0 : Int) ≤ (k : Int) - (mn : Int) := by omega
                have q3 : (k : Int) - (mn : Int) < (n : Int) + 1 := by omega
                have q4 : decide ((mn : Int) ≤ (k : Int)) = true := decide_eq_true (by omega)
                have q5 : decide (mn ≤ k) = true := decide_eq_true hle
                have hln2 : (tvL ms vals k j).length ≤ 1048576 := by omega
                generalize vals.getD (k - mn) 0 = y at *
                go_wp2_with (at_builtin; refine app1 hl hln2 hzj rfl rfl rfl rfl ?_; intro v4 w4 ho4 hg4)
                go_roundw
                case rel => exact ⟨j + 1, by omega, by go_num, by rw [Hs.out]; exact ho4, hbj.grown hg4 hzj (fun g hg => (hl.lt g hg).1)⟩
                case measure => simp [intOf]; omega
              · have Hs : Hid (tvL ms vals k (j + 1) = tvL ms vals k j) := hide (by
                  rw [tvL_no (by rw [HLL.out]; exact hjL) (by rw [hmn]; omega)])
                rw [hmn] at m1 hp
                clear hmn b3j
                have q4 : decide ((mn : Int) ≤ (k : Int)) = false := decide_eq_false (by omega)
                have q5 : decide (mn ≤ k) = false := decide_eq_false hle
                go_wp2
                go_roundw
                case rel => exact ⟨j + 1, by omega, by go_num, by rw [Hs.out]; exact hl, hbj⟩
                case measure => simp [intOf]; omega
            · have hjL2 : L = j := by omega
              subst hjL2
              obtain ⟨w5, rfl⟩ : ∃ w5 : World, w5 = wr := ⟨_, rfl⟩
              have hz5 := hbj.size
              have b35 := hbk.trans (hbj.mono hzk)
              have hz35 := b35.size
              have hl5 := hl.own.rv
              clear hl
              go_wp2
              go_loopw [16, 17] (fun l i wr => ∃ j : Nat, j ≤ k ∧ i = .int .i64 j ∧ OwnL wr w5.heap.size l (spL rows k j) ∧ Below w5.heap.size w5 wr) (fun _ i _ => k - (intOf i).toNat)
              case atStart => exact ⟨0, Nat.zero_le _, rfl, OwnL.empty _ _ rfl (Nat.le_refl _), (Below.refl _ _).alloc (Nat.le_refl _) _⟩
              case round =>
                obtain ⟨j, hj, rfl, hl, hb5⟩ := hrel
                by_cases hjk : j < k
                · obtain ⟨w6, rfl⟩ : ∃ w6 : World, w6 = wr := ⟨_, rfl⟩
                  have hz6 := hb5.size
                  have b36 := b35.trans (hb5.mono hz35)
                  have hc1v7 := HRc.out _ b36 j (by omega)
                  have hc2v7 := HRc.out _ b36 (k - 1 - j) (by omega)
                  have hln := spL_len rows k j
                  have hsp1 : spX rows k 1 j = bits .xor .i64 (rows.getD j 0) (rows.getD (k - 1 - j) 0) := rfl
                  have e1 : IntKind.i64.wrap ((k : Int) - 1) = (k : Int) - 1 := IntWalk.i64_in _ (by omega)
                  have e2 : IntKind.i64.wrap ((k : Int) - 1 - (j : Int)) = ((k - 1 - j : Nat) : Int) := by rw [show (k : Int) - 1 - (j : Int) = ((k - 1 - j : Nat) : Int) from by omega]; exact IntWalk.i64_in _ (by omega)
                  have hu1 : k - 1 - j < n + 1 := by omega
                  have f0 : 0 ≤ (j : Int) := by omega
                  have f1 : (j : Int) < (n : Int) + 1 := by omega
                  have f1' : (j : Int) < ((n + 1 : Nat) : Int) := by omega
                  by_cases hj2 : j + 1 < k
                  · have Hs : Hid (spL rows k (j + 1) = spL rows k j ++ [spX rows k 1 j] ++ [spX rows k 2 j]) := hide (by rw [spL, if_pos hj2])
                    have hsp2 : spX rows k 2 j = bits .xor .i64 (rows.getD j 0) (rows.getD (k - 2 - j) 0) := rfl
                    rw [hsp1, hsp2] at Hs
                    have HR2 := hide (fun W h => HRc.out W h (k - 2 - j) (by omega))
                    have HR1 := hide (fun W h => HRc.out W h j (by omega))
                    have e3 : IntKind.i64.wrap ((k : Int) - 2) = (k : Int) - 2 := IntWalk.i64_in _ (by omega)
                    have e4 : IntKind.i64.wrap ((k : Int) - 2 - (j : Int)) = ((k - 2 - j : Nat) : Int) := by rw [show (k : Int) - 2 - (j : Int) = ((k - 2 - j : Nat) : Int) from by omega]; exact IntWalk.i64_in _ (by omega)
                    have hu2 : k - 2 - j < n + 1 := by omega
                    have dj1 : decide (j + 1 < k) = true := decide_eq_true hj2
                    have dj2 : decide ((j : Int) + 1 < (k : Int)) = true := decide_eq_true (by omega)
                    have Hlenv7 : Hid ((spL rows k j).length ≤ 100) := hide (by omega)
                    have Hlenv8 : Hid ((spL rows k j ++ [bits .xor .i64 (rows.getD j 0) (rows.getD (k - 1 - j) 0)]).length ≤ 100) := hide (by simp; omega)
                    clear hln hsp1 hsp2
                    generalize rows.getD j 0 = y at *
                    generalize rows.getD (k - 1 - j) 0 = z at *
                    generalize rows.getD (k - 2 - j) 0 = z2 at *
                    generalize spL rows k j = T at *
                    generalize k - 1 - j = u at *
                    generalize k - 2 - j = u2 at *
                    have f2 : 0 ≤ (u : Int) := by omega
                    have f3 : (u : Int) < (n : Int) + 1 := by omega
                    have f3' : (u : Int) < ((n + 1 : Nat) : Int) := by omega
                    have f4 : 0 ≤ (u2 : Int) := by omega
                    have f5 : (u2 : Int) < (n : Int) + 1 := by omega
                    have f5' : (u2 : Int) < ((n + 1 : Nat) : Int) := by omega
                    have Hltv7 := hide (fun g hg => (hl.lt g hg).1)
                    have Hnev7 : Hid (some gr ≠ u16.ownBlock) := hide (fun e => by
                      have := hl.lt gr e.symm
                      omega)
                    have hgsv7 : gr < w6.heap.size := by omega
                    have hlov7 : w5.heap.size ≤ w6.heap.size := by omega
                    go_wp2
                    go_region_held3 (fun w' => w'.cell? ⟨gr, j, none⟩ = some (.int .i64 y) ∧ w'.cell? ⟨gr, u, none⟩ = some (.int .i64 z))
                      (first
                        | exact ⟨hc1v7, hc2v7⟩
                        | go_keep
                        | (go_split_ands; refine ⟨?_, ?_⟩ <;> (rw [hgrowv7.cell_far _ (by show gr < _; simp; omega) Hnev7.out]; first | assumption | (rw [World.cell?_alloc_lt _ _ _ (by show gr < _; omega)]; assumption))))
                      ((refine step_app1 (by rfl) (by rfl) (by rfl) (by rfl) (OwnL.alloc hl _) (g := w6.heap.size) (y := bits .xor .i64 y z) (by show (w6.alloc _).cell? _ = _; rw [World.cell?_alloc_at _ _ _ _ rfl]; rfl) (by have := Hlenv7.out; omega) (by simp; omega) ?_; intro v7 w7 ho7 hgrowv7))
                    have hgv7 : w6.grownBy w7 u16.ownBlock := (World.grownBy_alloc w6 _ _).trans (⟨hgrowv7.os, hgrowv7.tape, hgrowv7.output, hgrowv7.size, hgrowv7.block⟩ : (w6.alloc (.cells #[.int .i64 (bits .xor .i64 y z)] 2)).grownBy w7 u16.ownBlock)
                    have hb7 := hb5.grown hgv7 hz6 (fun g hg => Hltv7.out g hg)
                    have hz7 := hgv7.size
                    have b37 := b35.trans (hb7.mono hz35)
                    have hc1v8 := HR1.out _ b37
                    have hc2v8 := HR2.out _ b37
                    have HG7 := hide hgv7
                    clear hc1v7 hc2v7 hgrowv7 hgv7 hl
                    have Hltv8 := hide (fun g hg => (ho7.lt g hg).1)
                    have Hnev8 : Hid (some gr ≠ v7.ownBlock) := hide (fun e => by
                      have := ho7.lt gr e.symm
                      omega)
                    have hgsv8 : gr < w7.heap.size := by omega
                    have hlov8 : w5.heap.size ≤ w7.heap.size := by omega
                    go_wp2
                    go_region_held3 (fun w' => w'.cell? ⟨gr, j, none⟩ = some (.int .i64 y) ∧ w'.cell? ⟨gr, u2, none⟩ = some (.int .i64 z2))
                      (first
                        | exact ⟨hc1v8, hc2v8⟩
                        | go_keep
                        | (go_split_ands; refine ⟨?_, ?_⟩ <;> (rw [hgrowv8.cell_far _ (by show gr < _; simp; omega) Hnev8.out]; first | assumption | (rw [World.cell?_alloc_lt _ _ _ (by show gr < _; omega)]; assumption))))
                      ((refine step_app1 (by rfl) (by rfl) (by rfl) (by rfl) (OwnL.alloc ho7 _) (g := w7.heap.size) (y := bits .xor .i64 y z2) (by show (w7.alloc _).cell? _ = _; rw [World.cell?_alloc_at _ _ _ _ rfl]; rfl) (by have := Hlenv8.out; omega) (by simp; omega) ?_; intro v8 w8 ho8 hgrowv8))
                    have hgv8 : w7.grownBy w8 v7.ownBlock := (World.grownBy_alloc w7 _ _).trans (⟨hgrowv8.os, hgrowv8.tape, hgrowv8.output, hgrowv8.size, hgrowv8.block⟩ : (w7.alloc (.cells #[.int .i64 (bits .xor .i64 y z2)] 2)).grownBy w8 v7.ownBlock)
                    have hz8 := hgv8.size
                    have HB8 := hide (hb7.grown hgv8 (by omega) (fun g hg => Hltv8.out g hg))
                    clear hgrowv8 hgv8
                    go_wp2
                    go_roundw
                    case rel => exact ⟨j + 1, by omega, by go_num, by rw [Hs.out]; exact ho8, HB8.out⟩
                    case measure => simp [intOf]; omega
                  ·
                    have Hs : Hid (spL rows k (j + 1) = spL rows k j ++ [spX rows k 1 j]) := hide (by rw [spL, if_neg hj2])
                    rw [hsp1] at Hs
                    have dj1 : decide (j + 1 < k) = false := decide_eq_false hj2
                    have dj2 : decide ((j : Int) + 1 < (k : Int)) = false := decide_eq_false (by omega)
                    have Hlenv7 : Hid ((spL rows k j).length ≤ 100) := hide (by omega)
                    clear hln hsp1
                    generalize rows.getD j 0 = y at *
                    generalize rows.getD (k - 1 - j) 0 = z at *
                    generalize spL rows k j = T at *
                    generalize k - 1 - j = u at *
                    have f2 : 0 ≤ (u : Int) := by omega
                    have f3 : (u : Int) < (n : Int) + 1 := by omega
                    have f3' : (u : Int) < ((n + 1 : Nat) : Int) := by omega
                    have Hltv7 := hide (fun g hg => (hl.lt g hg).1)
                    have Hnev7 : Hid (some gr ≠ u16.ownBlock) := hide (fun e => by
                      have := hl.lt gr e.symm
                      omega)
                    have hgsv7 : gr < w6.heap.size := by omega
                    have hlov7 : w5.heap.size ≤ w6.heap.size := by omega
                    go_wp2
                    go_region_held3 (fun w' => w'.cell? ⟨gr, j, none⟩ = some (.int .i64 y) ∧ w'.cell? ⟨gr, u, none⟩ = some (.int .i64 z))
                      (first
                        | exact ⟨hc1v7, hc2v7⟩
                        | go_keep
                        | (go_split_ands; refine ⟨?_, ?_⟩ <;> (rw [hgrowv7.cell_far _ (by show gr < _; simp; omega) Hnev7.out]; first | assumption | (rw [World.cell?_alloc_lt _ _ _ (by show gr < _; omega)]; assumption))))
                      ((refine step_app1 (by rfl) (by rfl) (by rfl) (by rfl) (OwnL.alloc hl _) (g := w6.heap.size) (y := bits .xor .i64 y z) (by show (w6.alloc _).cell? _ = _; rw [World.cell?_alloc_at _ _ _ _ rfl]; rfl) (by have := Hlenv7.out; omega) (by simp; omega) ?_; intro v7 w7 ho7 hgrowv7))
                    have hgv7 : w6.grownBy w7 u16.ownBlock := (World.grownBy_alloc w6 _ _).trans (⟨hgrowv7.os, hgrowv7.tape, hgrowv7.output, hgrowv7.size, hgrowv7.block⟩ : (w6.alloc (.cells #[.int .i64 (bits .xor .i64 y z)] 2)).grownBy w7 u16.ownBlock)
                    have hz7 := hgv7.size
                    have HB7 := hide (hb5.grown hgv7 hz6 (fun g hg => Hltv7.out g hg))
                    clear hgrowv7 hgv7 hc1v7 hc2v7
                    go_wp2
                    go_roundw
                    case rel => exact ⟨j + 1, by omega, by go_num, by rw [Hs.out]; exact ho7, HB7.out⟩
                    case measure => simp [intOf]; omega
                ·
                  have hjk2 : k = j := by omega
                  subst hjk2
                  have b36 := b35.trans (hb5.mono hz35)
                  have hz36 := b36.size
                  have vk := HVc.out _ b36 k hkn
                  have rk := HRc.out _ b36 k hkn
                  have hL5 := hl5.below hb5
                  have hS5 := hl.own.rv
                  have ep := P2.out k hkn
                  have eq := P3.out k hkn
                  try rw [HLL.out] at ep
                  rw [ep] at vk
                  rw [eq] at rk
                  have hln1 := tvL_len ms vals k L
                  have hln2 := spL_len rows k k
                  have hsa := mex_spec (tvL ms vals k L)
                  have hsb := mex_spec (svT rows k 2)
                  have hlb := svT_len rows k 2
                  have Hh := hide (spL_has rows k)
                  have C1 := Lib.hid (rHasV _ (tvL ms vals k L) ((mex (tvL ms vals k L) : Nat) : Int) _ hL5 (by omega))
                  have C2 := Lib.hid (rHasV _ (spL rows k k) ((mex (svT rows k 2) : Nat) : Int) _ hS5 (by omega))
                  rw [hsa.1] at C1
                  rw [Hh.out, hsb.1] at C2
                  have CL : Hid (∀ x : Nat, x < mex (tvL ms vals k L) → Calls Try.prog 31 #[_, .int .i64 x] wr fun e w' => e = .returned (.bool true) ∧ wr = w') := hide fun x hx => by
                    have h := rHasV _ (tvL ms vals k L) (x : Int) _ hL5 (by omega)
                    rw [hsa.2.1 x hx] at h
                    exact h
                  have CS : Hid (∀ x : Nat, x < mex (svT rows k 2) → Calls Try.prog 31 #[_, .int .i64 x] wr fun e w' => e = .returned (.bool true) ∧ wr = w') := hide fun x hx => by
                    have h := rHasV _ (spL rows k k) (x : Int) _ hS5 (by omega)
                    rw [Hh.out, hsb.2.1 x hx] at h
                    exact h
                  have hp4 : mex (tvL ms vals k L) ≤ 4 := by omega
                  have hq4 : mex (svT rows k 2) ≤ 60 := by omega
                  clear hL5 hS5 hsa hsb hln1 hln2 hlb ep eq Hh hl hl5
                  generalize mex (tvL ms vals k L) = p at *
                  generalize mex (svT rows k 2) = q at *
                  have dp : decide ((p : Int) < 0) = false := decide_eq_false (by omega)
                  have dq : decide ((q : Int) < 0) = false := decide_eq_false (by omega)
                  go_wp2_with fail
                  refine C1.out.mono ?_
                  rintro e w' ⟨rfl, rfl⟩
                  go_wp2_with fail
                  refine C2.out.mono ?_
                  rintro e w' ⟨rfl, rfl⟩
                  go_wp2
                  go_loop [18] (fun i => ∃ x : Nat, x ≤ p + q ∧ i = .int .i64 x) (fun i => p + q + 1 - (intOf i).toNat)
                  case atStart => exact ⟨0, by omega, rfl⟩
                  case round =>
                    obtain ⟨x, hx, rfl⟩ := hrel
                    by_cases h1 : x < p
                    · have d1 : decide (x < p) = true := decide_eq_true h1
                      have d2 : decide ((x : Int) < (p : Int)) = true := decide_eq_true (by omega)
                      by_cases h2 : x < q
                      · have d3 : decide (x < q) = true := decide_eq_true h2
                        have d4 : decide ((x : Int) < (q : Int)) = true := decide_eq_true (by omega)
                        go_wp2_with fail
                        refine (CL.out x h1).mono ?_
                        rintro e w' ⟨rfl, rfl⟩
                        go_wp2_with fail
                        refine (CS.out x h2).mono ?_
                        rintro e w' ⟨rfl, rfl⟩
                        go_wp2
                        go_round
                        case rel => exact ⟨x + 1, by omega, by go_num⟩
                        case measure => simp [intOf]; omega
                      · have d3 : decide (x < q) = false := decide_eq_false h2
                        have d4 : decide ((x : Int) < (q : Int)) = false := decide_eq_false (by omega)
                        go_wp2_with fail
                        refine (CL.out x h1).mono ?_
                        rintro e w' ⟨rfl, rfl⟩
                        go_wp2
                        go_round
                        case rel => exact ⟨x + 1, by omega, by go_num⟩
                        case measure => simp [intOf]; omega
                    · have d1 : decide (x < p) = false := decide_eq_false h1
                      have d2 : decide ((x : Int) < (p : Int)) = false := decide_eq_false (by omega)
                      by_cases h2 : x < q
                      · have d3 : decide (x < q) = true := decide_eq_true h2
                        have d4 : decide ((x : Int) < (q : Int)) = true := decide_eq_true (by omega)
                        go_wp2_with fail
                        refine (CS.out x h2).mono ?_
                        rintro e w' ⟨rfl, rfl⟩
                        go_wp2
                        go_round
                        case rel => exact ⟨x + 1, by omega, by go_num⟩
                        case measure => simp [intOf]; omega
                      · have d3 : decide (x < q) = false := decide_eq_false h2
                        have d4 : decide ((x : Int) < (q : Int)) = false := decide_eq_false (by omega)
                        go_wp2
                        go_roundw
                        case rel => exact ⟨k + 1, by omega, by go_num, b36⟩
                        case measure => simp [intOf]; omega
        · have dk1 : decide ((k : Int) ≤ (n : Int)) = false := decide_eq_false (by omega)
          have dk2 : decide (k ≤ n) = false := decide_eq_false (by omega)
          have hzk := hbk.size
          clear P2 P3 HRc
          go_wp2
          clear dk1 dk2
          go_loopw [19, 20, 21] (fun h a i wr => ∃ hs : List Int, i = .int .i64 hs.length ∧ hs.length ≤ 4 ∧ a = .int .i64 (hxTo vals hs hs.length) ∧ Hid (∀ i, i < hs.length → 0 ≤ hs.getD i 0 ∧ hs.getD i 0 ≤ (n : Int)) ∧ OwnL wr w3.heap.size h hs ∧ Below w3.heap.size w3 wr) (fun _ _ i _ => 5 - (intOf i).toNat)
          case atStart => exact ⟨[], rfl, by simp, rfl, hide fun i h => absurd h (by simp), OwnL.empty _ _ rfl hzk, hbk.alloc hzk _⟩
          case round =>
            obtain ⟨hs, rfl, hh4, rfl, hin, ho, hb⟩ := hrel
            clear hbk hzk
            have hbw := HB3.out.trans (hb.mono HB3.out.size)
            have hzb := hb.size
            go_wp2_with fail
            refine (HC1.out _ 42 4 hbw (by omega) (by omega) (by omega) (by omega)).mono ?_
            rintro e w' ⟨⟨v, rfl, hv⟩, rfl⟩
            have hv3 : (v : Int) ≤ 3 := by omega
            clear hv
            by_cases hlt : (hs.length : Int) < 1 + (v : Int)
            · have hh3 : hs.length ≤ 3 := by omega
              have dq1 : decide ((hs.length : Int) < 1 + (v : Int)) = true := decide_eq_true hlt
              go_wp2_with fail
              refine (HC1.out _ (hs.length : Int) ((n : Int) + 1) hbw (by omega) (by omega) (by omega) (by omega)).mono ?_
              rintro e w' ⟨⟨x, rfl, hx⟩, rfl⟩
              have hxn : x ≤ n := by omega
              have hxi : (x : Int) < (n : Int) + 1 := by omega
              clear hx
              have Hx := hide (hx_app vals hs (x : Int))
              have HLen : Hid ((hs ++ [(x : Int)]).length = hs.length + 1) := hide (by simp)
              have hh5 : hs.length ≤ 1048576 := by omega
              have Hin : Hid (∀ i, i < (hs ++ [(x : Int)]).length → 0 ≤ (hs ++ [(x : Int)]).getD i 0 ∧ (hs ++ [(x : Int)]).getD i 0 ≤ (n : Int)) := hide fun i hi => by
                rw [HLen.out] at hi
                rw [getD_app]
                by_cases e : i < hs.length
                · rw [if_pos e]; exact hin.out i e
                · rw [if_neg e, if_pos (by omega)]; omega
              have hxv : (x : Int).toNat = x := Int.toNat_natCast x
              rw [hxv] at Hx
              clear hxv
              generalize hA : hxTo vals hs hs.length = A at *
              clear hA
              go_wp2_with (at_builtin; refine app1 ho hh5 hzb rfl rfl rfl rfl ?_; intro v4 w4 ho4 hg4; have hb4 := hb.grown hg4 hzb (fun g hg => (ho.lt g hg).1); have cv := HVc.out w4 hb4 x (by omega))
              go_roundw
              case rel => exact ⟨hs ++ [(x : Int)], by rw [HLen.out]; go_num, by rw [HLen.out]; omega, by rw [HLen.out, Hx.out]; rfl, Hin, ho4, hb4⟩
              case measure => simp [intOf]; omega
            · have hh1 : 1 ≤ hs.length := by omega
              have hvh := ho.own.rv
              have hvm := HVM.out.below hb
              have HM := Lib.hid (iHeapMove _ hs _ ms _ hvh hvm (by omega) (by rw [HLL.out]; omega))
              obtain ⟨gh, dh, rfl, hdh, hgh, hch⟩ := formN ho.own rfl (show 0 < hs.length by omega)
              have hz2 := hb.size
              rcases P4.out hs hh1 hh4 hin.out with ⟨h0, hR⟩ | ⟨h0, a, b, ha, hbb, hR, hle, hx⟩
              · rw [hR] at HM
                rw [h0]
                clear hR h0 hch ho
                go_wp2_with fail
                refine HM.out.mono ?_
                rintro e w9 ⟨rfl, hb9⟩
                go_wp2
                go_ret
                exact ⟨rfl, hbw.trans (hb9.mono hbw.size)⟩
              · rw [hR] at HM
                have hwa := hin.out a ha
                have hbL : b < ms.length := by first | exact hbb | (rw [HLL.out]; exact hbb)
                have hmem := getD_mem (xs := ms) (b := b) hbL
                have hp1 := Hpos.out b (by first | exact hbL | (rw [← HLL.out]; exact hbL))
                obtain ⟨x, hxe⟩ : ∃ x : Nat, hs.getD a 0 = (x : Int) := ⟨(hs.getD a 0).toNat, by omega⟩
                obtain ⟨t, hte⟩ : ∃ t : Nat, ms.getD b 0 = (t : Int) := ⟨(ms.getD b 0).toNat, by omega⟩
                rw [hxe, hte] at hle hx
                rw [hte] at HM hmem hp1
                rw [hxe] at hwa
                simp only [Int.toNat_natCast] at hx
                have hxn : x ≤ n := by omega
                have htx : t ≤ x := by omega
                have h0f : decide (hxTo vals hs hs.length = 0) = false := decide_eq_false h0
                have h0n : (hxTo vals hs hs.length != 0) = true := by simpa using h0
                have Hx := hide hx
                have H0 := hide h0
                have hca := hch a ha
                rw [hxe] at hca
                have Hmem := hide hmem
                have Hlen : Hid (ms.length ≤ 1048576) := hide (by rw [HLL.out]; omega)
                have hb2 := hb
                clear hR hx hch ho hxe hte hmem hbL hbb hin
                generalize hxTo vals hs hs.length = A at *
                generalize hLh : hs.length = Lh at *
                clear hLh
                go_wp2_with fail
                refine HM.out.mono ?_
                rintro e w9 ⟨rfl, hb9⟩
                have c1 := (hb9.cell (p := ⟨gh, a, none⟩) hgh).trans hca
                have hb39 := hb.trans (hb9.mono hb.size)
                have c2 := HVc.out _ hb39 x (by omega)
                have c3 := HVc.out _ hb39 (x - t) (by omega)
                have hasM := Lib.hid (rHasV _ ms (t : Int) w9 (hvm.below hb9) Hlen.out)
                rw [hasI_mem.2 Hmem.out] at hasM
                have d1 : decide ((t : Int) > (x : Int)) = false := decide_eq_false (by omega)
                have e1 : ((x : Int) - (t : Int)).toNat = x - t := by omega
                have e2 : (0 : Int) ≤ (x : Int) - (t : Int) := by omega
                have e3 : (x : Int) - (t : Int) < (n : Int) + 1 := by omega
                go_wp2_with fail
                refine hasM.out.mono ?_
                rintro e w' ⟨rfl, rfl⟩
                have e4 : IntKind.i64.wrap ((x : Int) - (t : Int)) = (x : Int) - (t : Int) := IntWalk.i64_in _ (by omega)
                have e5 : (0 : Int) ≤ (a : Int) := by omega
                have e6 : (a : Int) < (Lh : Int) := by omega
                have e7 : (0 : Int) ≤ (x : Int) := by omega
                have e8 : (x : Int) < (n : Int) + 1 := by omega
                generalize vals.getD x 0 = y1 at *
                generalize vals.getD (x - t) 0 = y2 at *
                go_wp2
                go_quiet (fail)
                go_wp2
                go_ret
                exact ⟨ret_bool (by rw [Hx.out]; rfl), below_drewN (hbw.trans (hb9.mono hbw.size)) _⟩
end Go.Proofs.Ytajpieblbijciaa
