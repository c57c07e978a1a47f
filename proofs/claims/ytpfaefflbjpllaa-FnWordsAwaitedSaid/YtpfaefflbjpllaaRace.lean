/- Contracts of leads and races of words on both sides. Conditions: as stated. -/
import Derived.Test.YtpfaefflbjpllaaWait
import Derived.Test.YtpfaefflbjpllaaGcd
namespace Go.Proofs.Ytpfaefflbjpllaa
open Go.ChangeShapes Go.WideShapes Go.ChangeAt Go.RowKit

/-! ### plain facts -/
theorem psum_snoc (s off : Nat) (ls : List Int) (l : Int) : psum s off (ls ++ [l]) = psum s off ls + s ^ (l.toNat - off) := by simp [psum]
theorem psum_nil (s off : Nat) : psum s off [] = 0 := rfl
theorem psum_lt {s : Nat} (hs : 2 ≤ s) (es bs : List Int) (k : Nat) : psum s 1 (ov es bs k) < s ^ k := by
  induction k with
  | zero => simp [ov_zero, psum_nil]
  | succ k ih =>
    have h2 : s ^ (k + 1) = s ^ k * s := Nat.pow_succ ..
    have h3 : s ^ k * 2 ≤ s ^ k * s := Nat.mul_le_mul_left _ hs
    cases hq : endsB es bs (k + 1) with
    | true =>
      rw [ov_yes hq, psum_snoc]
      have : (((k + 1 : Nat) : Int).toNat - 1) = k := by simp
      rw [this]
      omega
    | false =>
      rw [ov_no hq]
      omega
theorem ov_swap (es bs : List Int) : ov es bs es.length = ov es bs bs.length := by
  by_cases h : es.length ≤ bs.length
  · obtain ⟨m, e⟩ := Nat.exists_eq_add_of_le h
    rw [e, ov_more m (.inl (Nat.le_refl _))]
  · obtain ⟨m, e⟩ := Nat.exists_eq_add_of_le (show bs.length ≤ es.length by omega)
    rw [e, ov_more m (.inr (Nat.le_refl _))]
theorem endsB_self (xs : List Int) : endsB xs xs xs.length = true := by simp [endsB, eqL]
theorem psum_self {s : Nat} (xs : List Int) (h : 1 ≤ xs.length) : s ^ (xs.length - 1) ≤ psum s 1 (ov xs xs xs.length) := by
  rw [ov_yes' h (endsB_self xs), psum_snoc]
  have : ((xs.length : Int).toNat - 1) = xs.length - 1 := by simp
  rw [this]
  omega
theorem psum_other {s : Nat} (hs : 2 ≤ s) {xs ys : List Int} (h : 1 ≤ xs.length) (hne : endsB xs ys xs.length = false) : psum s 1 (ov xs ys xs.length) < s ^ (xs.length - 1) := by
  rw [ov_no' h hne]
  exact psum_lt hs _ _ _

/-- is a word in another one -/
def inW (xs ys : List Int) : Bool := (List.range (ys.length + 1)).any fun i => decide (i + xs.length ≤ ys.length) && eqL xs ((ys.drop i).take xs.length)
theorem inW_t {xs ys : List Int} {i : Nat} (h1 : i + xs.length ≤ ys.length) (h2 : eqL xs ((ys.drop i).take xs.length) = true) : inW xs ys = true := by
  rw [inW, List.any_eq_true]
  exact ⟨i, by simp; omega, by simp [h1, h2]⟩
theorem inW_f {xs ys : List Int} (h : ∀ i, i + xs.length ≤ ys.length → eqL xs ((ys.drop i).take xs.length) = false) : inW xs ys = false := by
  rw [inW, List.any_eq_false]
  intro i _
  by_cases h1 : i + xs.length ≤ ys.length
  · simp [h i h1]
  · simp [h1]
theorem endsB_of_notin {xs ys : List Int} (h : inW xs ys = false) : endsB xs ys xs.length = false := by
  by_cases h1 : xs.length ≤ ys.length
  · have h2 : eqL xs ((ys.drop 0).take xs.length) = false := by
      cases hq : eqL xs ((ys.drop 0).take xs.length) with
      | false => rfl
      | true =>
        have := inW_t (i := 0) (by omega) hq
        rw [h] at this
        cases this
    simp only [List.drop_zero] at h2
    simp [endsB, h1, h2]
  · simp [endsB, h1]

/-- what both races answer, as a fraction -/
def raceX (a b : List Int) (s : Nat) : Nat := psum s 1 (ov b b b.length) - psum s 1 (ov b a b.length)
def raceR (a b : List Int) (s : Nat) : Nat × Nat :=
  (raceX a b s / Nat.gcd (raceX a b s) (raceX a b s + raceX b a s), (raceX a b s + raceX b a s) / Nat.gcd (raceX a b s) (raceX a b s + raceX b a s))

theorem psum_ov_le {s : Nat} (hs : s ≤ 6) (es bs : List Int) {k : Nat} (hk : k ≤ 12) : psum s 1 (ov es bs k) ≤ 26121388032 := by
  have h1 := psum_le (off := 1) hs (ov es bs k) (fun l h => by have := ov_mem h; omega)
  have h2 : (ov es bs k).length ≤ 12 := Nat.le_trans (ov_len _ _ _) hk
  generalize (ov es bs k).length = L at *
  omega

/-! ### the walks -/
set_option maxHeartbeats 800000 in
theorem sLead (v u : Value) (xs ys : List Int) (s : Nat) (w : World) (hv : RV w v xs) (hu : RV w u ys) (hn : xs.length ≤ 12) (hm : ys.length ≤ 12) (hs1 : 1 ≤ s) (hs : s ≤ 6) :
    Calls Try.prog 63 #[v, u, .int .i64 s] w fun e w' => e = .returned (.int .i64 ((psum s 1 (ov xs ys xs.length) : Nat) : Int)) ∧ ∃ q, w' = w.drewN q := by
  obtain ⟨A, c, rfl, hr, hc⟩ := hv
  obtain ⟨B, d, rfl, hr2, hd⟩ := hu
  generalize hN : xs.length = n at *
  generalize hM : ys.length = m at *
  have HN := hide hN
  have HM := hide hM
  have Hsum : Hid (∀ k, k ≤ 12 → psum s 1 (ov xs ys k) ≤ 26121388032) := hide fun k hk => psum_ov_le hs xs ys hk
  clear hN hM
  go_enter Try.func63, Try.ntmps63
  go_wp2
  go_loopw [7, 8] (fun r i wr => ∃ l : Nat, 1 ≤ l ∧ l ≤ n + 1 ∧ i = .int .i64 l ∧ r = .int .i64 ((psum s 1 (ov xs ys (l - 1)) : Nat) : Int) ∧ Hid (∃ q, wr = w.drewN q)) (fun _ i _ => n + 1 - (intOf i).toNat)
  case atStart => exact ⟨1, Nat.le_refl _, by omega, rfl, rfl, hide ⟨0, rfl⟩⟩
  case round =>
    obtain ⟨l, hl1, hk, rfl, rfl, hq⟩ := hrel
    obtain ⟨q, rfl⟩ := hq.out
    by_cases hlt : l ≤ n
    · have hs1' := Hsum.out (l - 1) (by omega)
      have hs2' := Hsum.out l (by omega)
      cases hE : endsB xs ys l with
      | true =>
        have HE := Lib.hid (fun W h h' => sEnds A B n m c d l xs ys W h h' (by omega) (by omega) hc hd (by omega))
        rw [hE] at HE
        have hst : psum s 1 (ov xs ys l) = psum s 1 (ov xs ys (l - 1)) + s ^ (l - 1) := by rw [ov_yes' hl1 hE, psum_snoc]; simp
        rw [hst] at hs2'
        have Hst := hide hst
        have HP := Lib.hid (fun W => sPow s (l - 1) W hs1 (by omega) (by omega) (Nat.le_trans (pow_le12 hs (by omega)) (by omega)))
        have el : ((l : Int) - 1) = ((l - 1 : Nat) : Int) := by omega
        have El := hide el
        clear hst hE el
        generalize psum s 1 (ov xs ys (l - 1)) = p at *
        generalize s ^ (l - 1) = pw at *
        go_wp2_with fail
        refine (HE.out _ (hr.drewN _) (hr2.drewN _)).mono ?_
        rintro e w' ⟨rfl, q2, rfl⟩
        go_wp2_with fail
        rw [El.out]
        refine (HP.out _).mono ?_
        rintro e w' ⟨rfl, rfl⟩
        go_wp2
        go_roundw
        case rel => exact ⟨l + 1, by omega, by omega, by go_num, by rw [show l + 1 - 1 = l from by omega, Hst.out]; go_num, hide ⟨_, rfl⟩⟩
        case measure => simp [intOf]; omega
      | false =>
        have HE := Lib.hid (fun W h h' => sEnds A B n m c d l xs ys W h h' (by omega) (by omega) hc hd (by omega))
        rw [hE] at HE
        have Hst := hide (ov_no' hl1 hE)
        clear hE
        go_wp2_with fail
        refine (HE.out _ (hr.drewN _) (hr2.drewN _)).mono ?_
        rintro e w' ⟨rfl, q2, rfl⟩
        go_wp2
        go_roundw
        case rel => exact ⟨l + 1, by omega, by omega, by go_num, by rw [show l + 1 - 1 = l from by omega, Hst.out], hide ⟨_, rfl⟩⟩
        case measure => simp [intOf]; omega
    · have hkn : l = n + 1 := by omega
      subst hkn
      go_wp2
      go_ret
      exact ⟨rfl, _, rfl⟩

set_option maxHeartbeats 800000 in
theorem iLead (v u : Value) (xs ys : List Int) (s : Nat) (w : World) (hv : RV w v xs) (hu : RV w u ys) (hn : xs.length ≤ 12) (hm : ys.length ≤ 12) (hs1 : 1 ≤ s) (hs : s ≤ 6) :
    Calls Try.prog 65 #[v, u, .int .i64 s] w fun e w' => e = .returned (.int .i64 ((psum s 1 (ov xs ys xs.length) : Nat) : Int)) ∧ Below w.heap.size w w' := by
  have HO := Lib.hid (iOver u v ys xs w hu hv (by omega) (by omega))
  rw [ov_swap]
  have hmem : ∀ l, l ∈ ov xs ys ys.length → 1 ≤ l ∧ l ≤ 12 := fun l h => by have := ov_mem h; omega
  have hlen : (ov xs ys ys.length).length ≤ 12 := Nat.le_trans (ov_len _ _ _) hm
  generalize ov xs ys ys.length = ls at *
  have Hmem := hide hmem
  have Hsum : Hid (∀ k, k ≤ ls.length → psum s 1 (ls.take k) ≤ 26121388032) := hide fun k hk => by
    have h1 := psum_le (off := 1) hs (ls.take k) (fun l h => (hmem l (List.mem_of_mem_take h)).2)
    have h2 : (ls.take k).length ≤ 12 := by simp; omega
    generalize (ls.take k).length = L at *
    omega
  clear hmem
  go_enter Try.func65, Try.ntmps65
  go_wp2_with fail
  refine HO.out.mono ?_
  rintro e w2 ⟨r, rfl, ho, hb⟩
  obtain ⟨A, c, rfl, hr, hc⟩ := ho.rv
  clear ho
  have Hb := hide hb
  clear hb
  go_wp2
  go_loop [7, 9, 14] (fun r _ i => ∃ k : Nat, k ≤ ls.length ∧ i = .int .i64 k ∧ r = .int .i64 ((psum s 1 (ls.take k) : Nat) : Int)) (fun _ _ i => ls.length - (intOf i).toNat)
  case atStart => exact ⟨0, Nat.zero_le _, rfl, rfl⟩
  case round =>
    obtain ⟨k, hk, rfl, rfl⟩ := hrel
    by_cases hlt : k < ls.length
    · obtain ⟨ad, rfl, hbl, hcell⟩ := hr.int hlt
      have hm := Hmem.out (ls.getD k 0) (by simp [List.getD, hlt])
      have hst := psum_step s 1 ls k hlt
      have hs1' := Hsum.out k hk
      have hs2' := Hsum.out (k + 1) hlt
      rw [hst] at hs2'
      have Hst := hide hst
      clear hst
      obtain ⟨l, hl⟩ : ∃ l : Nat, ls.getD k 0 = (l : Int) := ⟨(ls.getD k 0).toNat, by omega⟩
      rw [hl] at hcell hm
      have hpw : s ^ ((ls.getD k 0).toNat - 1) = s ^ (l - 1) := by rw [hl]; simp
      rw [hpw] at hs2'
      have Hpw := hide hpw
      have HP := Lib.hid (fun W => iPow s (l - 1) W hs1 (by omega) (by omega) (Nat.le_trans (pow_le12 hs (by omega)) (by omega)))
      have el : ((l : Int) - 1) = ((l - 1 : Nat) : Int) := by omega
      have El := hide el
      clear hl hpw el
      generalize psum s 1 (ls.take k) = p at *
      generalize s ^ (l - 1) = q at *
      go_wp2_with fail
      rw [El.out]
      refine (HP.out _).mono ?_
      rintro e w' ⟨rfl, rfl⟩
      go_wp2
      go_round
      case rel => exact ⟨k + 1, by omega, by go_num, by rw [Hst.out, Hpw.out]; go_num⟩
      case measure => simp [intOf]; omega
    · have hkn : k = ls.length := by omega
      subst hkn
      go_wp2
      go_ret
      exact ⟨rfl, Hb.out⟩
end Go.Proofs.Ytpfaefflbjpllaa
