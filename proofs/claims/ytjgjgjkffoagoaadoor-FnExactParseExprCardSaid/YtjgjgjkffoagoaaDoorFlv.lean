/- What words stand for, as rational numbers; rounding is monotone and exact where it can be. No program in sight. -/
import Derived.Test.YtjgjgjkffoagoaaDoorFl
namespace Go.Proofs.YtjgjgjkffoagoaaDoor

def pw (p : Int) : Rat := (2 : Rat) ^ p
theorem two_ne : (2 : Rat) ≠ 0 := by decide
theorem pw_pos (p : Int) : 0 < pw p := Rat.zpow_pos (by decide)
theorem pw_add (p q : Int) : pw (p + q) = pw p * pw q := Rat.zpow_add two_ne p q
theorem pw_nat (n : Nat) : pw (n : Int) = ((2 ^ n : Nat) : Rat) := by
  unfold pw; rw [Rat.zpow_natCast, Rat.natCast_pow]; rfl
theorem pw_zero : pw 0 = 1 := Rat.zpow_zero 2
theorem pw_one : pw 1 = 2 := Rat.zpow_one 2
theorem pw_succ (p : Int) : pw (p + 1) = pw p * 2 := by rw [pw_add, pw_one]
theorem pw_sub (p q : Int) : pw (p - q) * pw q = pw p := by rw [← pw_add]; congr 1; omega
theorem pw_le {p q : Int} (h : p ≤ q) : pw p ≤ pw q := by
  have e : pw q = pw p * pw ((q - p).toNat : Int) := by rw [← pw_add]; congr 1; omega
  rw [e, pw_nat]
  have h1 : (1 : Rat) ≤ ((2 ^ (q - p).toNat : Nat) : Rat) := by
    have : 1 ≤ 2 ^ (q - p).toNat := Nat.one_le_two_pow
    exact_mod_cast this
  have := Rat.mul_le_mul_of_nonneg_left h1 (Rat.le_of_lt (pw_pos p))
  grind
theorem pw_lt {p q : Int} (h : p < q) : pw p < pw q := by
  have h1 := pw_le (show p + 1 ≤ q by omega)
  rw [pw_succ] at h1
  have := pw_pos p
  grind

/-- 'm * 2 ^ p'. -/
def vOf (m : Nat) (p : Int) : Rat := (m : Rat) * pw p
theorem vOf_shift (m k : Nat) (p : Int) : vOf (m * 2 ^ k) p = vOf m (p + k) := by
  unfold vOf; rw [pw_add, pw_nat, Rat.natCast_mul]; grind
theorem vOf_nonneg (m : Nat) (p : Int) : 0 ≤ vOf m p := Rat.mul_nonneg (by exact_mod_cast Nat.zero_le m) (Rat.le_of_lt (pw_pos p))
theorem vOf_pos {m : Nat} (p : Int) (h : 0 < m) : 0 < vOf m p := Rat.mul_pos (by exact_mod_cast h) (pw_pos p)

theorem cut_spec (n drop : Nat) : let k := Ieee.Toward.even.cut false n drop
    2 * n ≤ (2 * k + 1) * 2 ^ drop ∧ 2 * k * 2 ^ drop ≤ 2 * n + 2 ^ drop ∧ (2 * n = (2 * k + 1) * 2 ^ drop → k % 2 = 0) ∧ (2 * k * 2 ^ drop = 2 * n + 2 ^ drop → k % 2 = 0) := by
  intro k
  have hD : 0 < 2 ^ drop := Nat.two_pow_pos _
  by_cases hd : drop ≤ n.log2 + 2
  · have hk : k = n / 2 ^ drop + (decide (2 ^ drop < 2 * (n % 2 ^ drop)) || (2 ^ drop == 2 * (n % 2 ^ drop) && n / 2 ^ drop % 2 == 1)).toNat := by
      show Ieee.Toward.even.cut false n drop = _
      unfold Ieee.Toward.cut
      rw [Nat.min_eq_left hd, Nat.shiftLeft_eq, Nat.one_mul]
    have hn := Nat.div_add_mod n (2 ^ drop)
    have hr := Nat.mod_lt n hD
    generalize n / 2 ^ drop = low at *
    generalize n % 2 ^ drop = rest at *
    generalize 2 ^ drop = D at *
    clear_value k
    by_cases h1 : D < 2 * rest
    · have : k = low + 1 := by rw [hk]; simp [h1]
      subst this
      refine ⟨?_, ?_, fun h => ?_, fun h => ?_⟩ <;> grind
    · by_cases h2 : D = 2 * rest ∧ low % 2 = 1
      · have : k = low + 1 := by rw [hk]; simp [h2.1, h2.2]
        subst this
        obtain ⟨h2, h3⟩ := h2
        refine ⟨?_, ?_, fun h => ?_, fun h => ?_⟩ <;> grind
      · have : k = low := by
          rw [hk]
          have e1 : decide (D < 2 * rest) = false := by simpa using h1
          have e2 : (D == 2 * rest && low % 2 == 1) = false := by
            rw [Bool.and_eq_false_iff]
            by_cases e : D = 2 * rest
            · right; simp; omega
            · left; simpa using e
          rw [e1, e2]; rfl
        subst this
        refine ⟨?_, ?_, fun h => ?_, fun h => ?_⟩
        · grind
        · grind
        · have : D = 2 * rest := by grind
          omega
        · exfalso; grind
  · have hn : n < 2 ^ (n.log2 + 1) := Nat.lt_log2_self
    have hp : 2 ^ (n.log2 + 2) = 2 * 2 ^ (n.log2 + 1) := by rw [Nat.pow_succ]; omega
    have hle : 2 ^ (n.log2 + 2) ≤ 2 ^ drop := Nat.pow_le_pow_right (by omega) (by omega)
    have hk : k = 0 := by
      show Ieee.Toward.even.cut false n drop = _
      unfold Ieee.Toward.cut
      rw [Nat.min_eq_right (by omega), Nat.shiftLeft_eq, Nat.one_mul]
      have e1 : n / 2 ^ (n.log2 + 2) = 0 := Nat.div_eq_of_lt (by omega)
      have e2 : n % 2 ^ (n.log2 + 2) = n := Nat.mod_eq_of_lt (by omega)
      have e3 : decide (2 ^ (n.log2 + 2) < 2 * n) = false := by simp; omega
      have e4 : (2 ^ (n.log2 + 2) == 2 * n) = false := by simp; omega
      simp [e1, e2, e4]
      omega
    clear_value k
    subst hk
    refine ⟨?_, ?_, fun h => rfl, fun h => rfl⟩ <;> omega

/-- The same as rationals: the kept number is the nearest whole one, the even one of two. -/
theorem cut_near (m : Nat) (p last : Int) : let k := Ieee.Toward.even.cut false (m <<< (p - last).toNat) (last - p).toNat
    2 * vOf m p ≤ (2 * (k : Rat) + 1) * pw last ∧ (2 * (k : Rat) - 1) * pw last ≤ 2 * vOf m p ∧
      (2 * vOf m p = (2 * (k : Rat) + 1) * pw last → k % 2 = 0) ∧ ((2 * (k : Rat) - 1) * pw last = 2 * vOf m p → k % 2 = 0) := by
  intro k
  have hs := cut_spec (m <<< (p - last).toNat) (last - p).toNat
  simp only at hs
  change _ ∧ _ ∧ _ ∧ _ at hs
  have hk : Ieee.Toward.even.cut false (m <<< (p - last).toNat) (last - p).toNat = k := rfl
  rw [hk] at hs
  clear_value k
  clear hk
  rw [Nat.shiftLeft_eq] at hs
  -- the unit in which both sides are whole: the lower of the two places
  have e1 : vOf m p = ((m * 2 ^ (p - last).toNat : Nat) : Rat) * pw (p - (p - last).toNat) := by
    have h := vOf_shift m (p - last).toNat (p - (p - last).toNat)
    rw [show p - ((p - last).toNat : Int) + ((p - last).toNat : Int) = p by omega] at h
    rw [← h]; rfl
  have e2 : pw last = ((2 ^ (last - p).toNat : Nat) : Rat) * pw (p - (p - last).toNat) := by
    rw [← pw_nat, ← pw_add]; congr 1; omega
  have hu := pw_pos (p - (p - last).toNat)
  rw [e1, e2]
  generalize pw (p - ((p - last).toNat : Int)) = u at *
  generalize m * 2 ^ (p - last).toNat = n at *
  generalize 2 ^ (last - p).toNat = D at *
  obtain ⟨h1, h2, h3, h4⟩ := hs
  have c1 : 2 * (n : Rat) ≤ (2 * (k : Rat) + 1) * (D : Rat) := by exact_mod_cast h1
  have c2 : 2 * (k : Rat) * (D : Rat) ≤ 2 * (n : Rat) + (D : Rat) := by exact_mod_cast h2
  refine ⟨?_, ?_, fun h => h3 ?_, fun h => h4 ?_⟩
  · have := Rat.mul_le_mul_of_nonneg_right c1 (Rat.le_of_lt hu)
    grind
  · have := Rat.mul_le_mul_of_nonneg_right c2 (Rat.le_of_lt hu)
    grind
  · have hne : u ≠ 0 := by intro h0; rw [h0] at hu; exact absurd hu (by decide)
    have h5 : (2 * (n : Rat) - (2 * (k : Rat) + 1) * (D : Rat)) * u = 0 := by grind
    rcases Rat.mul_eq_zero.1 h5 with h6 | h6
    · have : 2 * (n : Rat) = (2 * (k : Rat) + 1) * (D : Rat) := by grind
      exact_mod_cast this
    · exact absurd h6 hne
  · have hne : u ≠ 0 := by intro h0; rw [h0] at hu; exact absurd hu (by decide)
    have h5 : (2 * (k : Rat) * (D : Rat) - (2 * (n : Rat) + (D : Rat))) * u = 0 := by grind
    rcases Rat.mul_eq_zero.1 h5 with h6 | h6
    · have : 2 * (k : Rat) * (D : Rat) = 2 * (n : Rat) + (D : Rat) := by grind
      exact_mod_cast this
    · exact absurd h6 hne

section
variable (f : Ieee.Format)
def lastOf (m : Nat) (p : Int) : Int := max (p + m.log2 - f.fractionBits) f.leastPlace
def keptOf (m : Nat) (p : Int) : Nat := Ieee.Toward.even.cut false (m <<< (p - lastOf f m p).toNat) (lastOf f m p - p).toNat
def rungOf (m : Nat) (p : Int) : Nat := if m = 0 then 0 else (lastOf f m p - f.leastPlace).toNat * f.binade + keptOf f m p

theorem cut_neg (neg : Bool) (n d : Nat) : Ieee.Toward.even.cut neg n d = Ieee.Toward.even.cut false n d := rfl
theorem nearest_eq (neg : Bool) (m : Nat) (p : Int) : f.nearest neg m p = f.word neg (min (rungOf f m p) f.infRung) := by
  unfold Ieee.Format.nearest rungOf
  by_cases h : m = 0
  · simp [h]
  · simp only [h, if_false]
    rfl

/-- What the rung r stands for (past the finite ones, too). -/
def expo (r : Nat) : Nat := r / f.binade - 1
def rval (r : Nat) : Rat := vOf (r - expo f r * f.binade) (f.leastPlace + expo f r)

theorem binade_pos : 0 < f.binade := Nat.two_pow_pos _

/-- A kept number of at most two binades, at a place that is the least one or where it has a full binade. -/
theorem rval_kept (d k : Nat) (h2 : k ≤ 2 * f.binade) (h1 : d = 0 ∨ f.binade ≤ k) : rval f (d * f.binade + k) = vOf k (f.leastPlace + d) := by
  have hb := binade_pos f
  unfold rval
  by_cases hk : k = 2 * f.binade
  · have he : expo f (d * f.binade + k) = d + 1 := by
      unfold expo
      rw [hk, ← Nat.add_mul, Nat.mul_div_cancel _ hb]; omega
    rw [he, hk, show d * f.binade + 2 * f.binade - (d + 1) * f.binade = f.binade by rw [Nat.add_mul]; omega]
    have := vOf_shift f.binade 1 (f.leastPlace + d)
    rw [show f.leastPlace + ((d + 1 : Nat) : Int) = f.leastPlace + (d : Int) + (1 : Nat) by omega, ← this]
    congr 1; omega
  · have he : expo f (d * f.binade + k) = d := by
      unfold expo
      rw [Nat.mul_comm d, Nat.mul_add_div hb]
      rcases h1 with rfl | h1
      · have : k / f.binade < 2 := by rw [Nat.div_lt_iff_lt_mul hb]; omega
        omega
      · have h3 : k / f.binade = 1 := by
          have h4 : k / f.binade < 2 := by rw [Nat.div_lt_iff_lt_mul hb]; omega
          have h5 : 1 ≤ k / f.binade := by rw [Nat.le_div_iff_mul_le hb]; omega
          omega
        omega
    rw [he, show d * f.binade + k - d * f.binade = k by omega]

theorem log2_le_of {m k : Nat} (h : m < 2 ^ (k + 1)) (hm : m ≠ 0) : m.log2 ≤ k := by
  have := (Nat.log2_lt hm).2 h
  omega

theorem vOf_log (m : Nat) (p : Int) (hm : m ≠ 0) : pw (p + m.log2) ≤ vOf m p ∧ vOf m p < pw (p + m.log2 + 1) := by
  have h1 : 2 ^ m.log2 ≤ m := Nat.log2_self_le hm
  have h2 : m < 2 ^ (m.log2 + 1) := Nat.lt_log2_self
  have hp := pw_pos p
  rw [Int.add_assoc, pw_add, show (m.log2 : Int) + 1 = ((m.log2 + 1 : Nat) : Int) by omega, pw_nat, pw_add, pw_nat]
  unfold vOf
  constructor
  · rw [Rat.mul_comm (pw p)]
    exact Rat.mul_le_mul_of_nonneg_right (by exact_mod_cast h1) (Rat.le_of_lt hp)
  · rw [Rat.mul_comm (pw p)]
    exact Rat.mul_lt_mul_of_pos_right (by exact_mod_cast h2) hp

theorem pw_lt_iff {p q : Int} : pw p < pw q ↔ p < q := by
  constructor
  · intro h
    rcases Int.lt_or_le p q with h1 | h1
    · exact h1
    · have := pw_le h1
      exact absurd h (by grind)
  · exact pw_lt

/-- The kept number lies within one binade, but at the least place. -/
theorem kept_bounds (m : Nat) (p : Int) (hm : m ≠ 0) : keptOf f m p ≤ 2 * f.binade ∧ (lastOf f m p = f.leastPlace ∨ f.binade ≤ keptOf f m p) := by
  obtain ⟨h1, h2, h3, h4⟩ := cut_near m p (lastOf f m p)
  change _ ≤ (2 * (keptOf f m p : Rat) + 1) * _ at h1
  change (2 * (keptOf f m p : Rat) - 1) * _ ≤ _ at h2
  obtain ⟨hl, hu⟩ := vOf_log m p hm
  have hlast : p + m.log2 - f.fractionBits ≤ lastOf f m p := Int.le_max_left _ _
  generalize keptOf f m p = k at *
  have hB : (f.binade : Rat) = pw f.fractionBits := by rw [pw_nat]; rfl
  have hlp := pw_pos (lastOf f m p)
  constructor
  · -- above: 2k - 1 < 2 * 2b
    have e : pw (p + m.log2 + 1) ≤ pw (lastOf f m p) * (2 * f.binade) := by
      have : pw (p + m.log2 + 1) ≤ pw (lastOf f m p + f.fractionBits + 1) := pw_le (by omega)
      rw [pw_succ (lastOf f m p + f.fractionBits), pw_add (lastOf f m p), ← hB] at this
      grind
    have hlt : (2 * (k : Rat) - 1) * pw (lastOf f m p) < 2 * (2 * (f.binade : Rat)) * pw (lastOf f m p) := by grind
    have hlt' : 2 * (k : Rat) - 1 < 2 * (2 * (f.binade : Rat)) := Rat.lt_of_mul_lt_mul_right hlt (Rat.le_of_lt hlp)
    have : (2 * k : Rat) < ((4 * f.binade + 1 : Nat) : Rat) := by
      rw [Rat.natCast_add, Rat.natCast_mul]; grind
    have h5 : ((2 * k : Nat) : Rat) < ((4 * f.binade + 1 : Nat) : Rat) := by rw [Rat.natCast_mul]; exact this
    have h6 := Rat.natCast_lt_natCast.1 h5
    omega
  · rcases Int.le_total (p + m.log2 - f.fractionBits) f.leastPlace with hc | hc
    · left; unfold lastOf; omega
    · right
      have hlast : lastOf f m p = p + m.log2 - f.fractionBits := by unfold lastOf; omega
      rw [hlast] at h1 hlp
      have e : pw (p + m.log2) = pw (p + m.log2 - f.fractionBits) * f.binade := by
        rw [hB, pw_sub]
      have hle : 2 * (f.binade : Rat) * pw (p + m.log2 - f.fractionBits) ≤ (2 * (k : Rat) + 1) * pw (p + m.log2 - f.fractionBits) := by grind
      have hle' : 2 * (f.binade : Rat) ≤ 2 * (k : Rat) + 1 := Rat.le_of_mul_le_mul_right hle hlp
      have h5 : ((2 * f.binade : Nat) : Rat) ≤ ((2 * k + 1 : Nat) : Rat) := by
        rw [Rat.natCast_mul, Rat.natCast_add, Rat.natCast_mul]; exact hle'
      have h6 := Rat.natCast_le_natCast.1 h5
      omega

theorem least_le_last (m : Nat) (p : Int) : f.leastPlace ≤ lastOf f m p := Int.le_max_right _ _

/-- What a rounded number's rung stands for. -/
theorem rval_rung (m : Nat) (p : Int) (hm : m ≠ 0) : rval f (rungOf f m p) = vOf (keptOf f m p) (lastOf f m p) := by
  obtain ⟨h1, h2⟩ := kept_bounds f m p hm
  have hl := least_le_last f m p
  unfold rungOf
  rw [if_neg hm, rval_kept f _ _ h1 (by rcases h2 with h2 | h2 <;> omega)]
  congr 1; omega

theorem lt_of_pos {x : Rat} (h : 0 < x) : x ≠ 0 := by intro e; rw [e] at h; exact absurd h (by decide)
theorem vOf_eq_zero {m : Nat} {p : Int} (h : vOf m p = 0) : m = 0 := by
  rcases Nat.eq_zero_or_pos m with h0 | h0
  · exact h0
  · exact absurd h (lt_of_pos (vOf_pos p h0))
theorem vOf_zero (p : Int) : vOf 0 p = 0 := by unfold vOf; simp

theorem kept_mono {m n : Nat} {p q : Int} (h : vOf m p ≤ vOf n q) (hl : lastOf f m p = lastOf f n q) : keptOf f m p ≤ keptOf f n q := by
  obtain ⟨_, a2, _, a4⟩ := cut_near m p (lastOf f m p)
  obtain ⟨b1, _, b3, _⟩ := cut_near n q (lastOf f n q)
  change (2 * (keptOf f m p : Rat) - 1) * _ ≤ _ at a2
  change (2 * (keptOf f m p : Rat) - 1) * _ = _ → keptOf f m p % 2 = 0 at a4
  change _ ≤ (2 * (keptOf f n q : Rat) + 1) * _ at b1
  change _ = (2 * (keptOf f n q : Rat) + 1) * _ → keptOf f n q % 2 = 0 at b3
  generalize keptOf f m p = k at *
  generalize keptOf f n q = j at *
  rw [hl] at a2 a4
  have hu := pw_pos (lastOf f n q)
  generalize pw (lastOf f n q) = u at *
  rcases Nat.lt_or_ge j k with hjk | hjk
  · exfalso
    have h1 : (2 * (k : Rat) - 1) * u ≤ (2 * (j : Rat) + 1) * u := by grind
    have h2 : 2 * (k : Rat) - 1 ≤ 2 * (j : Rat) + 1 := Rat.le_of_mul_le_mul_right h1 hu
    have h3 : ((2 * k : Nat) : Rat) ≤ ((2 * j + 2 : Nat) : Rat) := by
      rw [Rat.natCast_mul, Rat.natCast_add, Rat.natCast_mul]; grind
    have h4 := Rat.natCast_le_natCast.1 h3
    have hk : k = j + 1 := by omega
    subst hk
    have h5 : (2 * ((j + 1 : Nat) : Rat) - 1) * u = (2 * (j : Rat) + 1) * u := by rw [Rat.natCast_add]; grind
    have h6 := a4 (by grind)
    have h7 := b3 (by grind)
    omega
  · exact hjk

/-- ROUNDING IS MONOTONE. -/
theorem rung_mono {m n : Nat} {p q : Int} (h : vOf m p ≤ vOf n q) : rungOf f m p ≤ rungOf f n q := by
  by_cases hm : m = 0
  · unfold rungOf; rw [if_pos hm]; exact Nat.zero_le _
  by_cases hn : n = 0
  · subst hn
    rw [vOf_zero] at h
    have := vOf_pos p (Nat.pos_of_ne_zero hm)
    exact absurd h (by grind)
  obtain ⟨l1, u1⟩ := vOf_log m p hm
  obtain ⟨l2, u2⟩ := vOf_log n q hn
  have hlog : p + m.log2 ≤ q + n.log2 := by
    have : pw (p + m.log2) < pw (q + n.log2 + 1) := by grind
    have := pw_lt_iff.1 this
    omega
  have hlast : lastOf f m p ≤ lastOf f n q := by unfold lastOf; omega
  have hl1 := least_le_last f m p
  obtain ⟨k1, _⟩ := kept_bounds f m p hm
  obtain ⟨_, k2⟩ := kept_bounds f n q hn
  unfold rungOf
  rw [if_neg hm, if_neg hn]
  by_cases he : lastOf f m p = lastOf f n q
  · rw [he]
    have := kept_mono f h he
    omega
  · have h2 : f.binade ≤ keptOf f n q := by rcases k2 with k2 | k2 <;> omega
    have h3 : (lastOf f m p - f.leastPlace).toNat + 1 ≤ (lastOf f n q - f.leastPlace).toNat := by omega
    have h4 := Nat.mul_le_mul_right f.binade h3
    rw [Nat.add_mul] at h4
    omega

theorem expo_small {r : Nat} (h : r < f.binade) : expo f r = 0 := by
  unfold expo; rw [Nat.div_eq_of_lt h]
/-- A rung's own digits. -/
theorem digits (r : Nat) : r = expo f r * f.binade + (r - expo f r * f.binade) ∧ r - expo f r * f.binade < 2 * f.binade ∧ (expo f r = 0 ∨ f.binade ≤ r - expo f r * f.binade) := by
  have hb := binade_pos f
  by_cases h : r < f.binade
  · rw [expo_small f h]; omega
  · have h1 : 1 ≤ r / f.binade := by rw [Nat.le_div_iff_mul_le hb]; omega
    have h2 := Nat.div_add_mod r f.binade
    have h3 := Nat.mod_lt r hb
    have h4 : r / f.binade = expo f r + 1 := by unfold expo; omega
    rw [h4, Nat.mul_comm, Nat.add_mul] at h2
    omega

theorem shiftLeft_zero (n : Nat) : n <<< 0 = n := rfl
theorem cut_zero (n : Nat) : Ieee.Toward.even.cut false n 0 = n := by
  unfold Ieee.Toward.cut
  simp [Nat.mod_one]

theorem log2_eq {m k : Nat} (h1 : 2 ^ k ≤ m) (h2 : m < 2 ^ (k + 1)) : m.log2 = k := by
  have hm : m ≠ 0 := by have := Nat.two_pow_pos k; omega
  have h3 := log2_le_of h2 hm
  have h4 : k ≤ m.log2 := (Nat.le_log2 hm).2 h1
  omega

/-- A number that the format has is rounded to itself. -/
theorem rung_self (r : Nat) : rungOf f (r - expo f r * f.binade) (f.leastPlace + expo f r) = r := by
  obtain ⟨h1, h2, h3⟩ := digits f r
  generalize expo f r = e at *
  generalize r - e * f.binade = s at *
  by_cases hs : s = 0
  · rcases h3 with h3 | h3
    · subst h3; subst hs; unfold rungOf; simp; omega
    · have := binade_pos f; omega
  · have hl : lastOf f s (f.leastPlace + e) = f.leastPlace + e := by
      unfold lastOf
      rcases h3 with h3 | h3
      · have h4 : s < 2 ^ (f.fractionBits + 1) := by rw [Nat.pow_succ]; unfold Ieee.Format.binade at h2; omega
        have := log2_le_of h4 hs
        omega
      · have h4 : s < 2 ^ (f.fractionBits + 1) := by rw [Nat.pow_succ]; unfold Ieee.Format.binade at h2; omega
        have := log2_eq (k := f.fractionBits) h3 h4
        omega
    unfold rungOf keptOf
    rw [if_neg hs, hl]
    simp only [Int.sub_self, Int.toNat_zero, shiftLeft_zero, cut_zero]
    rw [show (f.leastPlace + (e : Int) - f.leastPlace).toNat = e by omega]
    exact h1.symm
theorem rval_def (r : Nat) : rval f r = vOf (r - expo f r * f.binade) (f.leastPlace + expo f r) := rfl
theorem rung_of_rval {m : Nat} {p : Int} {r : Nat} (h : vOf m p = rval f r) : rungOf f m p = r := by
  have h1 := rung_mono f (show vOf m p ≤ vOf (r - expo f r * f.binade) (f.leastPlace + expo f r) from h ▸ Rat.le_refl)
  have h2 := rung_mono f (show vOf (r - expo f r * f.binade) (f.leastPlace + expo f r) ≤ vOf m p from h ▸ Rat.le_refl)
  rw [rung_self] at h1 h2
  omega
theorem rval_lt {r s : Nat} (h : r < s) : rval f r < rval f s := by
  rcases Rat.le_total (a := rval f s) (b := rval f r) with h1 | h1
  · have := rung_mono f h1
    rw [rung_self, rung_self] at this
    omega
  · rcases Rat.le_iff_lt_or_eq.1 h1 with h2 | h2
    · exact h2
    · have := rung_of_rval f h2
      rw [rung_self] at this
      omega
theorem rval_le {r s : Nat} (h : r ≤ s) : rval f r ≤ rval f s := by
  rcases Nat.lt_or_eq_of_le h with h1 | rfl
  · exact Rat.le_of_lt (rval_lt f h1)
  · exact Rat.le_refl
theorem rval_lt_iff {r s : Nat} : rval f r < rval f s ↔ r < s := by
  constructor
  · intro h
    rcases Nat.lt_or_ge r s with h1 | h1
    · exact h1
    · have := rval_le f h1
      exact absurd h (by grind)
  · exact rval_lt f
theorem rval_inj {r s : Nat} (h : rval f r = rval f s) : r = s := by
  have := rung_of_rval f h
  rw [rung_self] at this
  exact this
theorem rval_zero : rval f 0 = 0 := by
  unfold rval; simp [vOf_zero]
theorem rval_nonneg (r : Nat) : 0 ≤ rval f r := vOf_nonneg _ _
/-- What lies at or below a number of the format is rounded to at most it; and so above. -/
theorem rung_le {m : Nat} {p : Int} {r : Nat} (h : vOf m p ≤ rval f r) : rungOf f m p ≤ r := by
  have := rung_mono f (show vOf m p ≤ vOf _ _ from h)
  rw [rung_self] at this
  exact this
theorem le_rung {m : Nat} {p : Int} {r : Nat} (h : rval f r ≤ vOf m p) : r ≤ rungOf f m p := by
  have := rung_mono f (show vOf _ _ ≤ vOf m p from h)
  rw [rung_self] at this
  exact this
end
end Go.Proofs.YtjgjgjkffoagoaaDoor
