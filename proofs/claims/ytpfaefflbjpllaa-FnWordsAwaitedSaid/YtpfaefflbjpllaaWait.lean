/- Contracts of the waits for words on both sides. Conditions: lengths at most 2^20. -/
import Derived.Test.YtpfaefflbjpllaaBorders
import Derived.Test.YtpfaefflbjpllaaPow
namespace Go.Proofs.Ytpfaefflbjpllaa
open Go.ChangeShapes Go.WideShapes Go.ChangeAt Go.RowKit

/-- the sum of powers, with the list's numbers less off as exponents -/
def psum (s off : Nat) (ls : List Int) : Nat := (ls.map fun l => s ^ (l.toNat - off)).sum
theorem psum_step (s off : Nat) (ls : List Int) (k : Nat) (hk : k < ls.length) : psum s off (ls.take (k + 1)) = psum s off (ls.take k) + s ^ ((ls.getD k 0).toNat - off) := by
  rw [psum, psum, take_snoc' ls 0 k hk]
  simp
theorem pow_le12 {s e : Nat} (hs : s ≤ 6) (he : e ≤ 12) : s ^ e ≤ 2176782336 := by
  have h1 : s ^ e ≤ 6 ^ e := Nat.pow_le_pow_left hs e
  have h2 : (6 : Nat) ^ e ≤ 6 ^ 12 := Nat.pow_le_pow_right (by omega) he
  have h3 : (6 : Nat) ^ 12 = 2176782336 := by decide
  omega
theorem psum_le {s off : Nat} (hs : s ≤ 6) (ls : List Int) (h : ∀ l ∈ ls, l ≤ 12) : psum s off ls ≤ ls.length * 2176782336 := by
  induction ls with
  | nil => simp [psum]
  | cons l ls ih =>
    have h1 := ih (fun x hx => h x (List.mem_cons_of_mem _ hx))
    have h2 := h l (by simp)
    have h3 : s ^ (l.toNat - off) ≤ 2176782336 := pow_le12 hs (by omega)
    simp only [psum, List.map_cons, List.sum_cons, List.length_cons] at h1 ⊢
    omega
theorem ov_mem {es bs : List Int} {k : Nat} {l : Int} (h : l ∈ ov es bs k) : 1 ≤ l ∧ l ≤ k := by
  unfold ov at h
  obtain ⟨j, hj, rfl⟩ := List.mem_map.1 h
  have := (List.mem_filter.1 hj).1
  simp at this
  omega

set_option maxHeartbeats 800000 in
theorem sWait (v : Value) (xs : List Int) (s : Nat) (w : World) (hv : RV w v xs) (hn : xs.length ≤ 12) (hs1 : 1 ≤ s) (hs : s ≤ 6) :
    Calls Try.prog 45 #[v, .int .i64 s] w fun e w' => e = .returned (.int .i64 ((psum s 0 (ov xs xs xs.length) : Nat) : Int)) ∧ Below w.heap.size w w' := by
  have HB := Lib.hid (sBorders v xs w hv (by omega))
  have hmem : ∀ l, l ∈ ov xs xs xs.length → 1 ≤ l ∧ l ≤ 12 := fun l h => by have := ov_mem h; omega
  have hlen : (ov xs xs xs.length).length ≤ 12 := Nat.le_trans (ov_len _ _ _) hn
  generalize ov xs xs xs.length = ls at *
  have Hmem := hide hmem
  have Hsum : Hid (∀ k, k ≤ ls.length → psum s 0 (ls.take k) ≤ 26121388032) := hide fun k hk => by
    have h1 := psum_le (off := 0) hs (ls.take k) (fun l h => (hmem l (List.mem_of_mem_take h)).2)
    have h2 : (ls.take k).length ≤ 12 := by simp; omega
    generalize (ls.take k).length = L at *
    omega
  clear hmem
  go_enter Try.func45, Try.ntmps45
  go_wp2_with fail
  refine HB.out.mono ?_
  rintro e w2 ⟨r, rfl, ho, hb⟩
  obtain ⟨A, c, rfl, hr, hc⟩ := ho.rv
  clear ho
  have Hb := hide hb
  clear hb
  go_wp2
  go_loop [6, 7] (fun r i => ∃ k : Nat, k ≤ ls.length ∧ i = .int .i64 k ∧ r = .int .i64 ((psum s 0 (ls.take k) : Nat) : Int)) (fun _ i => ls.length - (intOf i).toNat)
  case atStart => exact ⟨0, Nat.zero_le _, rfl, rfl⟩
  case round =>
    obtain ⟨k, hk, rfl, rfl⟩ := hrel
    by_cases hlt : k < ls.length
    · obtain ⟨ad, rfl, hbl, hcell⟩ := hr.int hlt
      have hm := Hmem.out (ls.getD k 0) (by simp [List.getD, hlt])
      have hst := psum_step s 0 ls k hlt
      have hs1' := Hsum.out k hk
      have hs2' := Hsum.out (k + 1) hlt
      rw [hst] at hs2'
      have Hst := hide hst
      clear hst
      obtain ⟨l, hl⟩ : ∃ l : Nat, ls.getD k 0 = (l : Int) := ⟨(ls.getD k 0).toNat, by omega⟩
      rw [hl] at hcell hm
      have Hl := hide hl
      have hpw : s ^ ((ls.getD k 0).toNat - 0) = s ^ l := by rw [hl]; simp
      rw [hpw] at hs2'
      have Hpw := hide hpw
      have HP := Lib.hid (fun W => sPow s l W hs1 (by omega) (by omega) (Nat.le_trans (pow_le12 hs (by omega)) (by omega)))
      clear hl hpw
      generalize psum s 0 (ls.take k) = p at *
      generalize s ^ l = q at *
      go_wp2_with (go_at_call 62; refine (HP.out _).mono ?_; rintro e w' ⟨rfl, rfl⟩)
      go_round
      case rel => exact ⟨k + 1, by omega, by go_num, by rw [Hst.out, Hpw.out]; go_num⟩
      case measure => simp [intOf]; omega
    · have hkn : k = ls.length := by omega
      subst hkn
      go_wp2
      go_ret
      exact ⟨rfl, Hb.out⟩

/-- what both WordWait answer -/
def RWordWait (xs : List Int) (s : Int) : Int × Bool := if wordB xs s = true then (((psum s.toNat 0 (ov xs xs xs.length) : Nat) : Int), true) else (0, false)
theorem wordB_facts {xs : List Int} {s : Int} (h : wordB xs s = true) : (2 ≤ s ∧ s ≤ 6) ∧ 1 ≤ xs.length ∧ xs.length ≤ 12 := by
  simp only [wordB, Bool.and_eq_true, inB_iff, decide_eq_true_eq] at h
  exact ⟨h.1, h.2.1⟩

theorem sWordV (v : Value) (xs : List Int) (s : Int) (w : World) (hv : RV w v xs) (hn : xs.length ≤ 1048576) :
    Calls Try.prog 39 #[v, .int .i64 s] w fun e w' => e = .returned (.bool (wordB xs s)) ∧ w = w' := by
  obtain ⟨A, c, rfl, hr, _⟩ := hv
  exact sWord A _ c xs s w hr hn
theorem iWordV (v : Value) (xs : List Int) (s : Int) (w : World) (hv : RV w v xs) (hn : xs.length ≤ 1048576) :
    Calls Try.prog 13 #[v, .int .i64 s] w fun e w' => e = .returned (.bool (wordB xs s)) ∧ Below w.heap.size w w' := by
  obtain ⟨A, c, rfl, hr, _⟩ := hv
  exact iIsWord A _ c xs s w hr hn

theorem sWordWait (v : Value) (xs : List Int) (s : Int) (w : World) (hv : RV w v xs) (hn : xs.length ≤ 1048576) (_wf : (Lit.int .i64 s).wf = true) :
    Calls Try.prog 19 #[v, .int .i64 s] w fun e w' => e = .returned (.tuple #[.int .i64 (RWordWait xs s).1, .bool (RWordWait xs s).2]) ∧ Below w.heap.size w w' := by
  have HW := Lib.hid (sWordV v xs s w hv hn)
  cases hq : wordB xs s with
  | false =>
    rw [show RWordWait xs s = (0, false) from by rw [RWordWait, if_neg (by rw [hq]; simp)]]
    rw [hq] at HW
    clear hq
    go_enter Try.func19, Try.ntmps19
    go_wp2_with (go_at_call 39; refine HW.out.mono ?_; rintro e w' ⟨rfl, rfl⟩)
    go_ret2
    exact ⟨rfl, Below.refl _ _⟩
  | true =>
    rw [show RWordWait xs s = (((psum s.toNat 0 (ov xs xs xs.length) : Nat) : Int), true) from by rw [RWordWait, if_pos hq]]
    obtain ⟨⟨h1, h2⟩, h3, h4⟩ := wordB_facts hq
    rw [hq] at HW
    clear hq
    obtain ⟨s, rfl⟩ := Int.eq_ofNat_of_zero_le (show 0 ≤ s by omega)
    rw [Int.toNat_natCast]
    have HB := Lib.hid (sWait v xs s w hv h4 (by omega) (by omega))
    generalize psum s 0 (ov xs xs xs.length) = rs at *
    go_enter Try.func19, Try.ntmps19
    go_wp2_with (first | (go_at_call 39; refine HW.out.mono ?_; rintro e w' ⟨rfl, rfl⟩) | (go_at_call 45; refine HB.out.mono ?_; rintro e w2 ⟨rfl, hb⟩))
    go_ret2
    exact ⟨rfl, hb⟩

set_option maxHeartbeats 800000 in
theorem iWordWait (v : Value) (xs : List Int) (s : Int) (w : World) (hv : RV w v xs) (hn : xs.length ≤ 1048576) (_wf : (Lit.int .i64 s).wf = true) :
    Calls Try.prog 20 #[v, .int .i64 s] w fun e w' => e = .returned (.tuple #[.int .i64 (RWordWait xs s).1, .bool (RWordWait xs s).2]) ∧ Below w.heap.size w w' := by
  have HW := Lib.hid (iWordV v xs s w hv hn)
  cases hq : wordB xs s with
  | false =>
    rw [show RWordWait xs s = (0, false) from by rw [RWordWait, if_neg (by rw [hq]; simp)]]
    rw [hq] at HW
    clear hq
    go_enter Try.func20, Try.ntmps20
    go_wp2_with (go_at_call 13; refine HW.out.mono ?_; rintro e w2 ⟨rfl, hb⟩)
    go_ret2
    exact ⟨rfl, hb⟩
  | true =>
    rw [show RWordWait xs s = (((psum s.toNat 0 (ov xs xs xs.length) : Nat) : Int), true) from by rw [RWordWait, if_pos hq]]
    obtain ⟨⟨h1, h2⟩, h3, h4⟩ := wordB_facts hq
    rw [hq] at HW
    clear hq
    obtain ⟨s, rfl⟩ := Int.eq_ofNat_of_zero_le (show 0 ≤ s by omega)
    rw [Int.toNat_natCast]
    have hs1 : 1 ≤ s := by omega
    have hs : s ≤ 6 := by omega
    have HO := Lib.hid (fun W h => iOver v v xs xs W h h hn hn)
    have hmem : ∀ l, l ∈ ov xs xs xs.length → 1 ≤ l ∧ l ≤ 12 := fun l h => by have := ov_mem h; omega
    have hlen : (ov xs xs xs.length).length ≤ 12 := Nat.le_trans (ov_len _ _ _) h4
    generalize ov xs xs xs.length = ls at *
    have Hmem := hide hmem
    have Hsum : Hid (∀ k, k ≤ ls.length → psum s 0 (ls.take k) ≤ 26121388032) := hide fun k hk => by
      have h1 := psum_le (off := 0) hs (ls.take k) (fun l h => (hmem l (List.mem_of_mem_take h)).2)
      have h2 : (ls.take k).length ≤ 12 := by simp; omega
      generalize (ls.take k).length = L at *
      omega
    clear hmem
    go_enter Try.func20, Try.ntmps20
    go_wp2_with fail
    refine HW.out.mono ?_
    rintro e w1 ⟨rfl, hb1⟩
    go_wp2_with fail
    refine (HO.out _ (hv.below hb1)).mono ?_
    rintro e w2 ⟨r, rfl, ho, hb⟩
    obtain ⟨A, c, rfl, hr, hc⟩ := ho.rv
    clear ho
    have Hb := hide (hb1.trans (hb.mono hb1.size))
    clear hb hb1
    go_wp2
    go_loop [6, 8, 17] (fun r _ i => ∃ k : Nat, k ≤ ls.length ∧ i = .int .i64 k ∧ r = .int .i64 ((psum s 0 (ls.take k) : Nat) : Int)) (fun _ _ i => ls.length - (intOf i).toNat)
    case atStart => exact ⟨0, Nat.zero_le _, rfl, rfl⟩
    case round =>
      obtain ⟨k, hk, rfl, rfl⟩ := hrel
      by_cases hlt : k < ls.length
      · obtain ⟨ad, rfl, hbl, hcell⟩ := hr.int hlt
        have hm := Hmem.out (ls.getD k 0) (by simp [List.getD, hlt])
        have hst := psum_step s 0 ls k hlt
        have hs1' := Hsum.out k hk
        have hs2' := Hsum.out (k + 1) hlt
        rw [hst] at hs2'
        have Hst := hide hst
        clear hst
        obtain ⟨l, hl⟩ : ∃ l : Nat, ls.getD k 0 = (l : Int) := ⟨(ls.getD k 0).toNat, by omega⟩
        rw [hl] at hcell hm
        have hpw : s ^ ((ls.getD k 0).toNat - 0) = s ^ l := by rw [hl]; simp
        rw [hpw] at hs2'
        have Hpw := hide hpw
        have HP := Lib.hid (fun W => iPow s l W hs1 (by omega) (by omega) (Nat.le_trans (pow_le12 hs (by omega)) (by omega)))
        clear hl hpw
        generalize psum s 0 (ls.take k) = p at *
        generalize s ^ l = q at *
        go_wp2_with (go_at_call 46; refine (HP.out _).mono ?_; rintro e w' ⟨rfl, rfl⟩)
        go_round
        case rel => exact ⟨k + 1, by omega, by go_num, by rw [Hst.out, Hpw.out]; go_num⟩
        case measure => simp [intOf]; omega
      · have hkn : k = ls.length := by omega
        subst hkn
        go_wp2
        go_ret2
        exact ⟨rfl, Hb.out⟩
end Go.Proofs.Ytpfaefflbjpllaa
