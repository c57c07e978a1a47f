/- Bounds on floats: a rounded result is no greater than a number of the format that the exact one is not greater than. Conditions: what is stated. -/
import Derived.Test.YtjeaiihgedennaaFloat
namespace Go.Proofs.Ytjeaiihgedennaa
open Go.ChangeShapes Go.WideShapes Go.ChangeAt Go.RowKit

/-- powers of two on one scale -/
@[irreducible] def sc (e : Int) : Nat := 2 ^ (e + 5000).toNat
theorem sc_pos (e : Int) : 0 < sc e := by
  unfold sc
  exact Nat.two_pow_pos _
theorem sc_mul (a b : Int) (ha : -2400 ≤ a) (hb : -2400 ≤ b) : sc a * sc b = sc (a + b) * sc 0 := by
  unfold sc
  rw [← Nat.pow_add, ← Nat.pow_add]
  congr 1
  omega
theorem sc_up (a : Int) (d : Nat) (ha : -5000 ≤ a) : sc (a + d) = 2 ^ d * sc a := by
  unfold sc
  rw [← Nat.pow_add]
  congr 1
  omega
theorem sc_up' (a b : Int) (d : Nat) (ha : -5000 ≤ a) (h : b = a + d) : sc b = 2 ^ d * sc a := by rw [h]; exact sc_up a d ha
theorem sc_mono (a b : Int) (h : a ≤ b) : sc a ≤ sc b := by
  unfold sc
  exact Nat.pow_le_pow_right (by decide) (by omega)
/-- n * 2^t is not greater than N * 2^q -/
def leB (n : Nat) (t : Int) (N : Nat) (q : Int) : Bool := if t ≤ q then decide (n ≤ N * 2 ^ (q - t).toNat) else decide (n * 2 ^ (t - q).toNat ≤ N)
theorem leB_sc {n : Nat} {t : Int} {N : Nat} {q : Int} (ht : -5000 ≤ t) (hq : -5000 ≤ q) (h : leB n t N q = true) : n * sc t ≤ N * sc q := by
  unfold leB at h
  split at h
  · have h := of_decide_eq_true h
    rw [sc_up' t q (q - t).toNat ht (by omega), ← Nat.mul_assoc]
    exact Nat.mul_le_mul_right _ h
  · have h := of_decide_eq_true h
    rw [sc_up' q t (t - q).toNat hq (by omega), ← Nat.mul_assoc]
    exact Nat.mul_le_mul_right _ h

theorem read_word' (f : Ieee.Format) (s : Bool) (r : Nat) (h : r < f.signWeight) : f.read (f.word s r) =
    (if r < f.binade then .number s r f.leastPlace else if r < f.infRung then .number s (f.binade + r % f.binade) (f.leastPlace + (r / f.binade - 1 : Nat)) else if r = f.infRung then .infinity s else .nan s (r - f.infRung)) := by
  have hm : f.word s r % f.signWeight = r := by
    unfold Ieee.Format.word
    cases s
    · exact Nat.mod_eq_of_lt h
    · simp only [if_true, Nat.add_mod_left]
      exact Nat.mod_eq_of_lt h
  have hs : (f.word s r / f.signWeight % 2 == 1) = s := by
    unfold Ieee.Format.word
    cases s
    · simp only [Bool.false_eq_true, if_false, Nat.div_eq_of_lt h]; rfl
    · simp only [if_true, Nat.add_div_left r (show 0 < f.signWeight by omega), Nat.div_eq_of_lt h]; rfl
  unfold Ieee.Format.read
  simp only [hm, hs]

theorem cut_le (s : Bool) (n d M : Nat) (h : n ≤ M * 2 ^ d) : Ieee.Toward.even.cut s n d ≤ M := by
  unfold Ieee.Toward.cut
  simp only [Nat.one_shiftLeft]
  by_cases hd : d ≤ n.log2 + 2
  · rw [Nat.min_eq_left hd]
    have hp : 0 < 2 ^ d := Nat.two_pow_pos d
    generalize 2 ^ d = g at *
    have hq : n / g ≤ M := Nat.div_le_of_le_mul (by rw [Nat.mul_comm]; exact h)
    by_cases he : n / g = M
    · have hr : n % g = 0 := by
        have h1 := Nat.div_add_mod n g
        rw [he, Nat.mul_comm] at h1
        omega
      have hb : (decide (g < 2 * (n % g)) || (g == 2 * (n % g) && n / g % 2 == 1)) = false := by
        rw [hr]
        simp
        omega
      rw [hb, he]
      simp
    · have : (decide (g < 2 * (n % g)) || (g == 2 * (n % g) && n / g % 2 == 1)).toNat ≤ 1 := Bool.toNat_le _
      omega
  · rw [Nat.min_eq_right (by omega)]
    have hlt : n < 2 ^ (n.log2 + 1) := Nat.lt_log2_self
    have h2 : 2 ^ (n.log2 + 2) = 2 * 2 ^ (n.log2 + 1) := by rw [Nat.pow_succ, Nat.mul_comm]
    generalize 2 ^ (n.log2 + 2) = g at *
    generalize 2 ^ (n.log2 + 1) = g' at *
    have h0 : n / g = 0 := Nat.div_eq_of_lt (by omega)
    have hr : n % g = n := Nat.mod_eq_of_lt (by omega)
    have hb : (decide (g < 2 * (n % g)) || (g == 2 * (n % g) && n / g % 2 == 1)) = false := by
      rw [hr, h0]
      simp
      omega
    rw [hb, h0]
    simp
theorem cut_ge (s : Bool) (n d M : Nat) (hM : 1 ≤ M) (h : M * 2 ^ d ≤ n) : M ≤ Ieee.Toward.even.cut s n d := by
  unfold Ieee.Toward.cut
  simp only [Nat.one_shiftLeft]
  have hlt : n < 2 ^ (n.log2 + 1) := Nat.lt_log2_self
  have hd : d ≤ n.log2 + 2 := by
    apply Classical.byContradiction
    intro hc
    have h1 : 2 ^ (n.log2 + 1) ≤ 2 ^ d := Nat.pow_le_pow_right (by decide) (by omega)
    have h2 : 2 ^ d ≤ M * 2 ^ d := Nat.le_mul_of_pos_left _ hM
    omega
  rw [Nat.min_eq_left hd]
  have : M ≤ n / 2 ^ d := (Nat.le_div_iff_mul_le (Nat.two_pow_pos d)).2 h
  omega

/-- a number of the format, not among its greatest -/
def fits (k : FloatKind) (N : Nat) (q : Int) : Bool := match k with
  | .f32 => decide (N < 16777216 ∧ -149 ≤ q ∧ q ≤ 103)
  | .f64 => decide (N < 9007199254740992 ∧ -1074 ≤ q ∧ q ≤ 900)
theorem near_le' (f : Ieee.Format) (l : Int) (F X : Nat) (hl : f.leastPlace = l) (hl2 : -2000 ≤ l) (hF : f.fractionBits = F) (hb : f.binade = 2 ^ F) (hi : f.infRung = X * 2 ^ F) (hw : X * 2 ^ F < f.signWeight)
    (s : Bool) (m : Nat) (p : Int) (N : Nat) (q : Int) (hp : -4900 ≤ p) (hN : N < 2 ^ (F + 1)) (hq : l ≤ q) (hX : q - l + 2 ≤ (X : Int) - 1) (hX2 : F < 2000) (hle : m * sc p ≤ N * sc q) :
    ∃ m' e', f.read (f.nearest s m p) = .number s m' e' ∧ m' * sc e' ≤ N * sc q ∧ l ≤ e' ∧ (m = 0 → m' = 0) := by
  have hB : 0 < 2 ^ F := Nat.two_pow_pos F
  have hXB : 2 ^ F ≤ X * 2 ^ F := Nat.le_mul_of_pos_left _ (by omega)
  unfold Ieee.Format.nearest
  by_cases h0 : m = 0
  · rw [if_pos h0, read_word' f s 0 (by omega), if_pos (by rw [hb]; exact hB)]
    exact ⟨0, _, rfl, by simp, by omega, fun _ => rfl⟩
  rw [if_neg h0]
  dsimp only
  rw [hl, hF, hb, hi]
  have hge : 2 ^ m.log2 ≤ m := Nat.log2_self_le h0
  generalize hL : m.log2 = L at *
  generalize hlast : max (p + (L : Int) - (F : Int)) l = last
  have hl3 : l ≤ last := by omega
  rw [Nat.shiftLeft_eq]
  generalize ha : (p - last).toNat = a
  generalize hd : (last - p).toNat = d
  -- the scaled value
  have hval : m * sc p * 2 ^ d = m * 2 ^ a * sc last := by
    by_cases hc : last ≤ p
    · have hd0 : d = 0 := by omega
      rw [hd0, sc_up' last p a (by omega) (by omega)]
      simp [Nat.mul_assoc]
    · have ha0 : a = 0 := by omega
      rw [ha0, sc_up' p last d (by omega) (by omega)]
      simp [Nat.mul_assoc, Nat.mul_comm, Nat.mul_left_comm]
  have hn0 : 0 < m * 2 ^ a := Nat.mul_pos (by omega) (Nat.two_pow_pos a)
  have hge2 : l < last → 2 ^ F * 2 ^ d ≤ m * 2 ^ a := fun hlt => by
    have hl4 : last = p + (L : Int) - (F : Int) := by omega
    calc 2 ^ F * 2 ^ d = 2 ^ (F + d) := (Nat.pow_add ..).symm
      _ = 2 ^ (L + a) := by congr 1; omega
      _ = 2 ^ L * 2 ^ a := Nat.pow_add ..
      _ ≤ m * 2 ^ a := Nat.mul_le_mul_right _ hge
  have hlq : last ≤ q := by
    apply Classical.byContradiction
    intro hc
    have h1 := hge2 (by omega)
    have h2 : 2 ^ F * 2 ^ d * sc last ≤ m * 2 ^ a * sc last := Nat.mul_le_mul_right _ h1
    rw [← hval] at h2
    have h3 : m * sc p * 2 ^ d ≤ N * sc q * 2 ^ d := Nat.mul_le_mul_right _ hle
    have h4 : sc last = 2 ^ ((last - q).toNat) * sc q := sc_up' q last _ (by omega) (by omega)
    have h5 : 2 ≤ 2 ^ ((last - q).toNat) := by
      calc 2 = 2 ^ 1 := rfl
        _ ≤ _ := Nat.pow_le_pow_right (by decide) (by omega)
    have h6 : 2 * sc q ≤ sc last := by rw [h4]; exact Nat.mul_le_mul_right _ h5
    have h7 : 2 ^ F * 2 ^ d * (2 * sc q) ≤ N * sc q * 2 ^ d := Nat.le_trans (Nat.mul_le_mul_left _ h6) (Nat.le_trans h2 h3)
    have h8 : 2 ^ F * 2 ^ d * (2 * sc q) = 2 ^ (F + 1) * (sc q * 2 ^ d) := by rw [Nat.pow_succ]; simp [Nat.mul_assoc, Nat.mul_comm, Nat.mul_left_comm]
    have h9 : N * sc q * 2 ^ d = N * (sc q * 2 ^ d) := Nat.mul_assoc ..
    rw [h8, h9] at h7
    have h10 : N * (sc q * 2 ^ d) < 2 ^ (F + 1) * (sc q * 2 ^ d) := Nat.mul_lt_mul_of_pos_right hN (Nat.mul_pos (sc_pos q) (Nat.two_pow_pos d))
    omega
  have hsq : sc q = 2 ^ ((q - last).toNat) * sc last := sc_up' last q _ (by omega) (by omega)
  have hcut : m * 2 ^ a ≤ N * 2 ^ ((q - last).toNat) * 2 ^ d := by
    have h3 : m * sc p * 2 ^ d ≤ N * sc q * 2 ^ d := Nat.mul_le_mul_right _ hle
    rw [hval, hsq] at h3
    have h4 : N * (2 ^ ((q - last).toNat) * sc last) * 2 ^ d = N * 2 ^ ((q - last).toNat) * 2 ^ d * sc last := by simp [Nat.mul_assoc, Nat.mul_comm, Nat.mul_left_comm]
    rw [h4] at h3
    exact Nat.le_of_mul_le_mul_right h3 (sc_pos last)
  have hk1 := cut_le s _ d _ hcut
  have hup : m * 2 ^ a ≤ 2 ^ (F + 1) * 2 ^ d := by
    have hlt : m < 2 ^ (L + 1) := by rw [← hL]; exact Nat.lt_log2_self
    calc m * 2 ^ a ≤ 2 ^ (L + 1) * 2 ^ a := Nat.mul_le_mul_right _ (by omega)
      _ = 2 ^ (L + 1 + a) := (Nat.pow_add ..).symm
      _ ≤ 2 ^ (F + 1 + d) := Nat.pow_le_pow_right (by decide) (by omega)
      _ = 2 ^ (F + 1) * 2 ^ d := Nat.pow_add ..
  have hk2 := cut_le s _ d _ hup
  have hk3 : l < last → 2 ^ F ≤ Ieee.Toward.even.cut s (m * 2 ^ a) d := fun hlt => cut_ge s _ d _ hB (hge2 hlt)
  generalize Ieee.Toward.even.cut s (m * 2 ^ a) d = kept at *
  have hkv : kept * sc last ≤ N * sc q := by
    rw [hsq, ← Nat.mul_assoc]
    exact Nat.mul_le_mul_right _ hk1
  clear hk1 hcut hup hge2 hval
  rw [Nat.pow_succ] at hk2
  obtain ⟨j, hj⟩ : ∃ j : Nat, (last - l).toNat = j := ⟨_, rfl⟩
  rw [hj]
  have hjX : j + 2 ≤ X - 1 := by omega
  have hR : j * 2 ^ F + kept < X * 2 ^ F := by
    calc j * 2 ^ F + kept ≤ j * 2 ^ F + 2 ^ F * 2 := Nat.add_le_add_left hk2 _
      _ = (j + 2) * 2 ^ F := by rw [Nat.add_mul, Nat.mul_comm 2]
      _ < X * 2 ^ F := Nat.mul_lt_mul_of_pos_right (by omega) hB
  rw [Nat.min_eq_left (Nat.le_of_lt hR), read_word' f s _ (by omega), hb, hi, hl]
  by_cases hkB : kept < 2 ^ F
  · have hj0 : j = 0 := by
      apply Classical.byContradiction
      intro hc
      have := hk3 (by omega)
      omega
    have hll : last = l := by omega
    subst hj0
    rw [if_pos (by omega)]
    rw [hll] at hkv
    exact ⟨_, _, rfl, by rw [Nat.zero_mul, Nat.zero_add]; exact hkv, by omega, fun h => absurd h h0⟩
  · have hnl : ¬ j * 2 ^ F + kept < 2 ^ F := by omega
    rw [if_neg hnl, if_pos hR]
    by_cases hk4 : kept < 2 ^ F * 2
    · have hdiv : (j * 2 ^ F + kept) / 2 ^ F = j + 1 := by
        rw [Nat.div_eq_iff hB]
        rw [Nat.add_mul]
        omega
      have hmod : (j * 2 ^ F + kept) % 2 ^ F = kept - 2 ^ F := by
        rw [Nat.mul_add_mod_self_right, Nat.mod_eq_sub_mod (by omega), Nat.mod_eq_of_lt (by omega)]
      rw [hdiv, hmod]
      refine ⟨_, _, rfl, ?_, by omega, fun h => absurd h h0⟩
      have he : l + ((j + 1 - 1 : Nat) : Int) = last := by omega
      rw [he]
      have : 2 ^ F + (kept - 2 ^ F) = kept := by omega
      rw [this]
      exact hkv
    · have hk5 : kept = 2 ^ F * 2 := by omega
      have hdiv : (j * 2 ^ F + kept) / 2 ^ F = j + 2 := by
        rw [Nat.div_eq_iff hB]
        rw [Nat.add_mul]
        omega
      have hmod : (j * 2 ^ F + kept) % 2 ^ F = 0 := by
        rw [Nat.mul_add_mod_self_right, hk5, Nat.mul_mod_right]
      rw [hdiv, hmod]
      refine ⟨_, _, rfl, ?_, by omega, fun h => absurd h h0⟩
      have he : l + ((j + 2 - 1 : Nat) : Int) = last + (1 : Nat) := by omega
      rw [he, sc_up last 1 (by omega)]
      rw [hk5] at hkv
      simpa [Nat.mul_assoc] using hkv
theorem near_le (k : FloatKind) (s : Bool) (m : Nat) (p : Int) (N : Nat) (q : Int) (hp : -4900 ≤ p) (hN : fits k N q = true) (hle : m * sc p ≤ N * sc q) :
    ∃ m' e', k.format.read (k.format.nearest s m p) = .number s m' e' ∧ m' * sc e' ≤ N * sc q ∧ -1074 ≤ e' ∧ (m = 0 → m' = 0) := by
  cases k
  · have hN := of_decide_eq_true hN
    obtain ⟨m', e', h1, h2, h3, h4⟩ := near_le' Ieee.single (-149) 23 255 (by decide) (by decide) rfl rfl (by decide) (by decide) s m p N q hp (by omega) (by omega) (by omega) (by decide) hle
    exact ⟨m', e', h1, h2, by omega, h4⟩
  · have hN := of_decide_eq_true hN
    obtain ⟨m', e', h1, h2, h3, h4⟩ := near_le' Ieee.double (-1074) 52 2047 (by decide) (by decide) rfl rfl (by decide) (by decide) s m p N q hp (by omega) (by omega) (by omega) (by decide) hle
    exact ⟨m', e', h1, h2, by omega, h4⟩
end Go.Proofs.Ytjeaiihgedennaa
