/- A whole number of units, narrowed to a single, over the unit, is near this whole number. No program in sight. -/
import Derived.Test.YtldcciipicnooaaSign
import Derived.Test.YtldcciipicnooaaQuantS
namespace Go.Proofs.Ytldcciipicnooaa
open Go.RowKit

/-- A number whose place the singles have, rounded to a single: off by a 2^24-th of it at most. -/
theorem round32_near {m : Nat} {p : Int} (hp : -149 ≤ p) :
    16777216 * rval FloatKind.f32.format (rungOf FloatKind.f32.format m p) ≤ 16777217 * vOf m p ∧ 16777215 * vOf m p ≤ 16777216 * rval FloatKind.f32.format (rungOf FloatKind.f32.format m p) := by
  have h0 := vOf_nonneg m p
  by_cases hm : m = 0
  · subst hm
    have : rungOf FloatKind.f32.format 0 p = 0 := by unfold rungOf; simp
    rw [this, rval_zero, vOf_zero]
    constructor <;> grind
  by_cases hl : p + m.log2 ≤ -126
  · have e : vOf m p = vOf (m * 2 ^ (p + 149).toNat) (-149) := by
      rw [vOf_shift]; congr 1; omega
    have hlt : m * 2 ^ (p + 149).toNat < 2 ^ 24 := by
      have h1 : m < 2 ^ (m.log2 + 1) := Nat.lt_log2_self
      have h2 : m * 2 ^ (p + 149).toNat < 2 ^ (m.log2 + 1) * 2 ^ (p + 149).toNat := Nat.mul_lt_mul_of_pos_right h1 (Nat.two_pow_pos _)
      rw [← Nat.pow_add] at h2
      have h3 : 2 ^ (m.log2 + 1 + (p + 149).toNat) ≤ 2 ^ 24 := Nat.pow_le_pow_right (by omega) (by omega)
      omega
    have hr := rval_exact FloatKind.f32.format (m * 2 ^ (p + 149).toNat) (-149) (by rw [b32]; omega) (by rw [l32]; omega)
    rw [rung_congr FloatKind.f32.format e, hr, ← e]
    constructor <;> grind
  · have hlast : lastOf FloatKind.f32.format m p = p + m.log2 - 23 := by
      have : (FloatKind.f32.format.fractionBits : Int) = 23 := rfl
      unfold lastOf
      rw [l32, this]; omega
    obtain ⟨h1, h2, _, _⟩ := cut_near m p (lastOf FloatKind.f32.format m p)
    change _ ≤ (2 * (keptOf FloatKind.f32.format m p : Rat) + 1) * _ at h1
    change (2 * (keptOf FloatKind.f32.format m p : Rat) - 1) * _ ≤ _ at h2
    rw [rval_rung _ m p hm]
    obtain ⟨l1, _⟩ := vOf_log m p hm
    have e : pw (p + m.log2) = pw (lastOf FloatKind.f32.format m p) * 8388608 := by
      rw [hlast, show p + (m.log2 : Int) = (p + m.log2 - 23) + ((23 : Nat) : Int) by omega, pw_add, pw_nat]
      congr 2; omega
    rw [e] at l1
    have ev : vOf (keptOf FloatKind.f32.format m p) (lastOf FloatKind.f32.format m p) = (keptOf FloatKind.f32.format m p : Rat) * pw (lastOf FloatKind.f32.format m p) := rfl
    rw [ev]
    generalize pw (lastOf FloatKind.f32.format m p) = L at *
    generalize hk : (keptOf FloatKind.f32.format m p : Rat) * L = X at *
    have h1' : 2 * vOf m p ≤ 2 * X + L := by rw [← hk]; grind
    have h2' : 2 * X - L ≤ 2 * vOf m p := by rw [← hk]; grind
    constructor <;> grind

/-- The quotient's number: off by a 2^54-th of it at most. -/
theorem quo_near (s t : Bool) {m n : Nat} {i j : Int} (hn : n ≠ 0) : ∃ M P, (Ieee.Datum.number s m i).quotient 54 (.number t n j) = some (.number (s ^^ t) M P) ∧
    18014398509481984 * (vOf M P * vOf n j) ≤ 18014398509481985 * vOf m i ∧ 18014398509481983 * vOf m i ≤ 18014398509481984 * (vOf M P * vOf n j) := by
  obtain ⟨sh, hsh⟩ : ∃ sh, sh = 54 + n.log2 - m.log2 := ⟨_, rfl⟩
  refine ⟨2 * ((m <<< sh) / n) + ((m <<< sh) % n != 0).toNat, i - j - (sh : Int) - 1, ?_, ?_⟩
  · unfold Ieee.Datum.quotient
    simp only [hn, if_false]
    rw [hsh]
  · rw [Nat.shiftLeft_eq]
    have hA := Nat.div_add_mod (m * 2 ^ sh) n
    have hR := Nat.mod_lt (m * 2 ^ sh) (Nat.pos_of_ne_zero hn)
    have hbig : m = 0 ∨ n * 2 ^ 53 ≤ m * 2 ^ sh := by
      by_cases hm : m = 0
      · exact .inl hm
      · right
        have h1 : 2 ^ m.log2 ≤ m := Nat.log2_self_le hm
        have h2 : n < 2 ^ (n.log2 + 1) := Nat.lt_log2_self
        have h3 : 2 ^ m.log2 * 2 ^ sh ≤ m * 2 ^ sh := Nat.mul_le_mul_right _ h1
        rw [← Nat.pow_add] at h3
        have h4 : 2 ^ (54 + n.log2) ≤ 2 ^ (m.log2 + sh) := Nat.pow_le_pow_right (by omega) (by omega)
        have h5 : n * 2 ^ 53 ≤ 2 ^ (n.log2 + 1) * 2 ^ 53 := Nat.mul_le_mul_right _ (Nat.le_of_lt h2)
        rw [← Nat.pow_add, show n.log2 + 1 + 53 = 54 + n.log2 by omega] at h5
        omega
    -- everything in one unit
    have eT : vOf m i = ((2 * (m * 2 ^ sh) : Nat) : Rat) * (pw (i - j - (sh : Int) - 1) * pw j) := by
      rw [← pw_add, show 2 * (m * 2 ^ sh) = m * 2 ^ (sh + 1) by rw [Nat.pow_succ]; grind]
      have := vOf_shift m (sh + 1) (i - j - (sh : Int) - 1 + j)
      rw [show i - j - (sh : Int) - 1 + j + ((sh + 1 : Nat) : Int) = i by omega] at this
      exact this.symm
    have eD : ∀ M, vOf M (i - j - (sh : Int) - 1) * vOf n j = ((M * n : Nat) : Rat) * (pw (i - j - (sh : Int) - 1) * pw j) := by
      intro M; unfold vOf; rw [Rat.natCast_mul]; grind
    rw [eT, eD]
    have hu : 0 < pw (i - j - (sh : Int) - 1) * pw j := Rat.mul_pos (pw_pos _) (pw_pos _)
    generalize pw (i - j - (sh : Int) - 1) * pw j = u at *
    generalize hAA : m * 2 ^ sh = A at *
    have hA0 : m = 0 → A = 0 := fun h => by rw [← hAA, h]; simp
    have key : (18014398509481984 * ((2 * (A / n) + (A % n != 0).toNat) * n) ≤ 18014398509481985 * (2 * A)) ∧ (18014398509481983 * (2 * A) ≤ 18014398509481984 * ((2 * (A / n) + (A % n != 0).toNat) * n)) := by
      have hQ : (2 * (A / n) + (A % n != 0).toNat) * n = 2 * (n * (A / n)) + (A % n != 0).toNat * n := by rw [Nat.add_mul]; congr 1; grind
      rw [hQ]
      rcases hbig with h | h
      · have := hA0 h
        subst this
        simp
      · cases hb : (A % n != 0)
        · have : A % n = 0 := by simpa using hb
          simp; omega
        · simp; omega
    obtain ⟨k1, k2⟩ := key
    have c1 : (18014398509481984 : Rat) * (((2 * (A / n) + (A % n != 0).toNat) * n : Nat) : Rat) ≤ 18014398509481985 * ((2 * A : Nat) : Rat) := by exact_mod_cast k1
    have c2 : (18014398509481983 : Rat) * ((2 * A : Nat) : Rat) ≤ 18014398509481984 * (((2 * (A / n) + (A % n != 0).toNat) * n : Nat) : Rat) := by exact_mod_cast k2
    generalize (((2 * (A / n) + (A % n != 0).toNat) * n : Nat) : Rat) = x at *
    generalize ((2 * A : Nat) : Rat) = y at *
    have d1 := Rat.mul_le_mul_of_nonneg_right c1 (Rat.le_of_lt hu)
    have d2 := Rat.mul_le_mul_of_nonneg_right c2 (Rat.le_of_lt hu)
    constructor <;> grind

theorem vOf_quarter (n : Nat) : vOf n (-2) * 4 = (n : Rat) := by
  unfold vOf
  have h1 := pw_succ (-2)
  have h2 := pw_succ (-1)
  rw [show (-2 : Int) + 1 = -1 by omega] at h1
  rw [show (-1 : Int) + 1 = 0 by omega, pw_zero] at h2
  grind

/-- What lies within a quarter of a whole number is rounded to a double that does. -/
theorem quarter_round {N M : Nat} {P : Int} (hN : N ≤ 1000000) (h1 : 4 * vOf M P ≤ 4 * (N : Rat) + 1) (h2 : 4 * (N : Rat) ≤ 4 * vOf M P + 1) :
    rungOf FloatKind.f64.format M P < FloatKind.f64.format.infRung ∧ 4 * rval FloatKind.f64.format (rungOf FloatKind.f64.format M P) ≤ 4 * (N : Rat) + 1 ∧ 4 * (N : Rat) ≤ 4 * rval FloatKind.f64.format (rungOf FloatKind.f64.format M P) + 1 := by
  obtain ⟨a1, a2⟩ := rung_fits (m := 4 * N + 1) (p := -2) (by omega) (by omega) (by omega)
  have q1 := vOf_quarter (4 * N + 1)
  rw [Rat.natCast_add, Rat.natCast_mul] at q1
  have u1 : rungOf FloatKind.f64.format M P ≤ rungOf FloatKind.f64.format (4 * N + 1) (-2) := rung_le FloatKind.f64.format (by rw [a1]; grind)
  have v1 := rval_le FloatKind.f64.format u1
  rw [a1] at v1
  refine ⟨by omega, by grind, ?_⟩
  rcases Nat.eq_zero_or_pos N with h0 | h0
  · subst h0
    have := rval_nonneg FloatKind.f64.format (rungOf FloatKind.f64.format M P)
    grind
  · obtain ⟨b1, b2⟩ := rung_fits (m := 4 * N - 1) (p := -2) (by omega) (by omega) (by omega)
    have q2 := vOf_quarter (4 * N - 1)
    have q3 : ((4 * N - 1 : Nat) : Rat) = 4 * (N : Rat) - 1 := by
      rw [natCast_sub (by omega), Rat.natCast_mul]; rfl
    rw [q3] at q2
    have u2 : rungOf FloatKind.f64.format (4 * N - 1) (-2) ≤ rungOf FloatKind.f64.format M P := le_rung FloatKind.f64.format (by rw [b1]; grind)
    have v2 := rval_le FloatKind.f64.format u2
    rw [b1] at v2
    grind

theorem rnd_quarter {N : Nat} {v : Rat} (h1 : 4 * v ≤ 4 * (N : Rat) + 1) (h2 : 4 * (N : Rat) ≤ 4 * v + 1) (h3 : 0 ≤ v) : rnd v = N := by
  unfold rnd
  rcases Rat.le_total (a := (N : Rat)) (b := v) with h | h
  · have e : flN v = N := flN_uniq h (by grind)
    rw [e, if_neg (by grind)]
  · rcases Nat.eq_zero_or_pos N with h0 | h0
    · subst h0
      have e0 : v = 0 := by have : ((0 : Nat) : Rat) = 0 := rfl
                            grind
      have e : flN v = 0 := flN_uniq (by grind) (by grind)
      rw [e, if_neg (by grind)]
    · obtain ⟨K, rfl⟩ : ∃ K, N = K + 1 := ⟨N - 1, by omega⟩
      rw [Rat.natCast_add] at *
      by_cases hv : v = (K : Rat) + (1 : Nat)
      · have e : flN v = K + 1 := flN_uniq (by rw [Rat.natCast_add]; grind) (by rw [Rat.natCast_add]; grind)
        rw [e, Rat.natCast_add, if_neg (by grind)]
      · have e : flN v = K := flN_uniq (by grind) (by grind)
        rw [e, if_pos (by grind)]

/-- What QuantumOf answers at a single that is near a whole number of units. -/
theorem quant_near {x v N : Nat} (hN : N ≤ 1000000) (hx : ru FloatKind.f32.format x < FloatKind.f32.format.infRung) (hv : ru FloatKind.f32.format v < FloatKind.f32.format.infRung) (h0 : 0 < ru FloatKind.f32.format v)
    (h1 : 16777216 * rval FloatKind.f32.format (ru FloatKind.f32.format x) ≤ 16777217 * ((N : Rat) * rval FloatKind.f32.format (ru FloatKind.f32.format v)))
    (h2 : 16777215 * ((N : Rat) * rval FloatKind.f32.format (ru FloatKind.f32.format v)) ≤ 16777216 * rval FloatKind.f32.format (ru FloatKind.f32.format x)) :
    quantF x (v, true) = (sgI (sg FloatKind.f32.format x ^^ sg FloatKind.f32.format v) N, true) := by
  obtain ⟨a, wa, ca, la, fa, sa, va⟩ := widen_some hx
  obtain ⟨b, wb, cb, lb, fb, sb, vb⟩ := widen_some hv
  have ra := abs_rval sa va
  have rb := abs_rval sb vb
  obtain ⟨m, p, e1, v1⟩ := read_fin _ fa
  obtain ⟨n, j, e2, v2⟩ := read_fin _ fb
  have hV := rval_pos FloatKind.f32.format h0
  have hn : n ≠ 0 := by
    intro hn
    subst hn
    rw [vOf_zero] at v2
    rw [← v2] at rb
    rw [← rb] at hV
    exact absurd hV (by decide)
  obtain ⟨M, P, hq, q1, q2⟩ := quo_near (sg FloatKind.f64.format a) (sg FloatKind.f64.format b) (m := m) (n := n) (i := p) (j := j) hn
  have he : floatBits .quo .f64 a b = some (FloatKind.f64.format.write (.number (sg FloatKind.f64.format a ^^ sg FloatKind.f64.format b) M P)) := by
    show ((FloatKind.f64.format.read a).quotient (FloatKind.f64.format.fractionBits + 2) (FloatKind.f64.format.read b)).map _ = _
    rw [e1, e2]
    show ((Ieee.Datum.number (sg FloatKind.f64.format a) m p).quotient 54 (.number (sg FloatKind.f64.format b) n j)).map _ = _
    rw [hq]; rfl
  have hQ : quotW x v = some (FloatKind.f64.format.write (.number (sg FloatKind.f64.format a ^^ sg FloatKind.f64.format b) M P)) := by
    unfold quotW; rw [wa, wb]; exact he
  rw [v1, v2, ra, rb] at q1 q2
  generalize rval FloatKind.f32.format (ru FloatKind.f32.format x) = X at *
  generalize hVV : rval FloatKind.f32.format (ru FloatKind.f32.format v) = V at *
  have hNr : (N : Rat) ≤ 1000000 := by exact_mod_cast hN
  have hN0 : (0 : Rat) ≤ (N : Rat) := by exact_mod_cast Nat.zero_le N
  have hNV := Rat.mul_le_mul_of_nonneg_right hNr (Rat.le_of_lt hV)
  have hNV0 := Rat.mul_nonneg hN0 (Rat.le_of_lt hV)
  have k1 : (4 * vOf M P) * V ≤ (4 * (N : Rat) + 1) * V := by grind
  have k2 : (4 * (N : Rat)) * V ≤ (4 * vOf M P + 1) * V := by grind
  obtain ⟨r1, r2, r3⟩ := quarter_round hN (Rat.le_of_mul_le_mul_right k1 hV) (Rat.le_of_mul_le_mul_right k2 hV)
  have hru : ru FloatKind.f64.format (FloatKind.f64.format.write (.number (sg FloatKind.f64.format a ^^ sg FloatKind.f64.format b) M P)) = rungOf FloatKind.f64.format M P := by
    rw [ru_write]; omega
  have hamt : amt (FloatKind.f64.format.write (.number (sg FloatKind.f64.format a ^^ sg FloatKind.f64.format b) M P)) = rval FloatKind.f64.format (rungOf FloatKind.f64.format M P) := by
    unfold amt; rw [hru]
  have hsm : small (FloatKind.f64.format.write (.number (sg FloatKind.f64.format a ^^ sg FloatKind.f64.format b) M P)) = true := by
    unfold small
    rw [hamt, hru]
    exact decide_eq_true ⟨r1, by grind⟩
  have hfx : finB .f32 x = true := decide_eq_true hx
  unfold quantF
  rw [hfx]
  simp only [hQ, Bool.and_self, if_true, hsm]
  rw [hamt, sg_write, sa, sb, rnd_quarter r2 r3 (rval_nonneg _ _)]

/-- float64(n) of a small whole number. -/
theorem ofInt_any {n : Int} (h : n.natAbs < 2 ^ 53) : floatOfInt .f64 n < 2 ^ 64 ∧ ru FloatKind.f64.format (floatOfInt .f64 n) < FloatKind.f64.format.infRung ∧
    rval FloatKind.f64.format (ru FloatKind.f64.format (floatOfInt .f64 n)) = (n.natAbs : Rat) ∧ sg FloatKind.f64.format (floatOfInt .f64 n) = decide (n < 0) := by
  have e : floatOfInt .f64 n = FloatKind.f64.format.write (.number (decide (n < 0)) n.natAbs 0) := rfl
  obtain ⟨a, b⟩ := rung_fits (m := n.natAbs) (p := 0) h (by omega) (by omega)
  have hr : ru FloatKind.f64.format (floatOfInt .f64 n) = rungOf FloatKind.f64.format n.natAbs 0 := by
    rw [e, ru_write]; omega
  refine ⟨by rw [e]; exact FloatKind.f64.format.write_lt _, by rw [hr]; exact b, ?_, by rw [e, sg_write]⟩
  rw [hr, a, vOf_nat]

/-- The unit's word. -/
theorem unit_good {s : List UInt8} {m e : Int} (hs : s = [43] ∨ s = [45]) (h1 : 1 ≤ m) (h2 : m ≤ 16777215) (h3 : -149 ≤ e) (h4 : e ≤ 60) :
    ∃ v, unitF s m e = (v, true) ∧ ru FloatKind.f32.format v < FloatKind.f32.format.infRung ∧ 0 < ru FloatKind.f32.format v ∧ rval FloatKind.f32.format (ru FloatKind.f32.format v) = vOf m.toNat e := by
  have hex := rval_exact FloatKind.f32.format m.toNat e (by rw [b32]; omega) (by rw [l32]; omega)
  have hlt : rungOf FloatKind.f32.format m.toNat e < FloatKind.f32.format.infRung := by
    rw [← rval_lt_iff FloatKind.f32.format, hex, rval_inf]
    have := vOf_lt_pw (m := m.toNat) (k := 24) (p := e) (by omega)
    have hle : pw ((24 : Nat) + e) ≤ pw 128 := pw_le (by omega)
    show _ < pw 128
    grind
  have hok : mkOk m.toNat e = true := by unfold mkOk; exact decide_eq_true ⟨hlt, hex⟩
  have hpos : 0 < rungOf FloatKind.f32.format m.toNat e := by
    rcases Nat.eq_zero_or_pos (rungOf FloatKind.f32.format m.toNat e) with h0 | h0
    · rw [h0, rval_zero] at hex
      have := vOf_pos (m := m.toNat) e (by omega)
      grind
    · exact h0
  obtain ⟨w1, w2, w3⟩ := word32 hlt
  rcases unit_sym m e with ⟨a1, a2⟩ | ⟨r, a1, a2, a3, a4, a5⟩
  · exfalso
    have hc : ((decide (0 ≤ m) && decide (m ≤ 16777215)) && (decide (-149 ≤ e) && decide (e ≤ 127)) && mkOk m.toNat e) = true := by
      rw [hok]; simp; omega
    have e1 : makeF [43] m e = (rungOf FloatKind.f32.format m.toNat e, true) := by
      have : makeF [43] m e = if ((decide (0 ≤ m) && decide (m ≤ 16777215)) && (decide (-149 ≤ e) && decide (e ≤ 127)) && mkOk m.toNat e) then (rungOf FloatKind.f32.format m.toNat e, true) else (0, false) := rfl
      rw [this, hc]; rfl
    rw [unit_eq, e1] at a1
    have o1 := ord_eq .f32 (x := rungOf FloatKind.f32.format m.toNat e) (by rw [w2]; omega) (y := 0) (by decide)
    have k1 : key .f32 (rungOf FloatKind.f32.format m.toNat e) = rungOf FloatKind.f32.format m.toNat e := by rw [key_pos .f32 w3, w2]
    have k3 : key .f32 0 = 0 := by decide
    rw [k1, k3] at o1
    simp only [o1] at a1
    rw [decide_eq_false (by omega)] at a1
    simp at a1
  · have hr : ru FloatKind.f32.format r = rungOf FloatKind.f32.format m.toNat e := by
      have hc : ((decide (0 ≤ m) && decide (m ≤ 16777215)) && (decide (-149 ≤ e) && decide (e ≤ 127)) && mkOk m.toNat e) = true := by
        rw [hok]; simp; omega
      have e1 : makeF [43] m e = (rungOf FloatKind.f32.format m.toNat e, true) := by
        have : makeF [43] m e = if ((decide (0 ≤ m) && decide (m ≤ 16777215)) && (decide (-149 ≤ e) && decide (e ≤ 127)) && mkOk m.toNat e) then (rungOf FloatKind.f32.format m.toNat e, true) else (0, false) := rfl
        rw [this, hc]; rfl
      rw [unit_eq, e1] at a1
      split at a1
      · injection a1 with b1 _
        simp only at b1
        rw [← b1, w2]
      · injection a1 with _ b2; cases b2
    rcases hs with rfl | rfl
    · exact ⟨_, a1, a3, a4, by rw [hr, hex]⟩
    · exact ⟨_, a2, by rw [ru_neg']; exact a3, by rw [ru_neg']; exact a4, by rw [ru_neg', hr, hex]⟩

/-- THE LAW: of a number that is so many units, narrowed, QuantumOf tells so many. -/
theorem back_law {n : Int} {v p x b : Nat} {mv : Nat} {ev : Int} (hn : n.natAbs ≤ 1000000) (hv : ru FloatKind.f32.format v < FloatKind.f32.format.infRung) (h0 : 0 < ru FloatKind.f32.format v)
    (hr : rval FloatKind.f32.format (ru FloatKind.f32.format v) = vOf mv ev) (hm : mv < 16777216) (he : -149 ≤ ev) (he2 : ev ≤ 60)
    (hb : cw .f64 b = widen (cw .f32 v)) (hp : cw .f64 p = arithR .mul .f64 (cw .f64 (floatOfInt .f64 n)) (cw .f64 b)) (hx : Narrow (cw .f64 p) (cw .f32 x)) :
    quantF x (v, true) = (n, true) := by
  obtain ⟨i1, i2, i3, i4⟩ := ofInt_any (n := n) (by omega)
  obtain ⟨b', wb, cb, lb, fb, sb, vb⟩ := widen_some hv
  rw [wb] at hb
  obtain rfl := cw_out hb
  have rb := abs_rval sb vb
  rw [floatBits_cw] at hp
  obtain ⟨m, q, e1, v1⟩ := mul_fin .f64 i2 fb
  rw [e1] at hp
  obtain rfl := cw_out hp
  rw [i3, rb, hr] at v1
  have hmv : vOf m q = vOf (n.natAbs * mv) ev := by rw [v1]; unfold vOf; rw [Rat.natCast_mul]; grind
  have hlt : n.natAbs * mv < 2 ^ 44 := by
    have h1 : n.natAbs * mv ≤ 1000000 * 16777216 := Nat.mul_le_mul hn (Nat.le_of_lt hm)
    omega
  obtain ⟨f1, f2⟩ := rung_fits (m := n.natAbs * mv) (p := ev) (by omega) (by omega) (by omega)
  have hru : ru FloatKind.f64.format (FloatKind.f64.format.write (.number (sg FloatKind.f64.format (floatOfInt .f64 n) ^^ sg FloatKind.f64.format b) m q)) = rungOf FloatKind.f64.format (n.natAbs * mv) ev := by
    rw [ru_write, rung_congr _ hmv]; omega
  have hsp := sg_write .f64 (sg FloatKind.f64.format (floatOfInt .f64 n) ^^ sg FloatKind.f64.format b) m q
  generalize FloatKind.f64.format.write (.number (sg FloatKind.f64.format (floatOfInt .f64 n) ^^ sg FloatKind.f64.format b) m q) = p at *
  obtain ⟨m', p', e2, v2⟩ := read_fin FloatKind.f64.format (b := p) (by rw [hru]; exact f2)
  rw [hru, f1] at v2
  rw [cw_some .f64 (by rw [hru]; omega)] at hx
  simp only [Narrow, e2] at hx
  rw [rung_congr FloatKind.f32.format v2] at hx
  obtain ⟨n1, n2⟩ := round32_near (m := n.natAbs * mv) (p := ev) he
  have hfin : rungOf FloatKind.f32.format (n.natAbs * mv) ev < FloatKind.f32.format.infRung := by
    rw [← rval_lt_iff FloatKind.f32.format, rval_inf]
    have h1 := vOf_lt_pw (p := ev) hlt
    have h2 : pw ((44 : Nat) + ev) ≤ pw 127 := pw_le (by omega)
    have h3 := pw_succ 127
    have h4 := pw_pos 127
    show _ < pw 128
    rw [show (127 : Int) + 1 = 128 by omega] at h3
    grind
  have hxe := cw_out (hx hfin)
  have hrx : ru FloatKind.f32.format x = rungOf FloatKind.f32.format (n.natAbs * mv) ev := by
    rw [hxe, ru_write, rung_congr FloatKind.f32.format v2]; omega
  have hsx : sg FloatKind.f32.format x = (decide (n < 0) ^^ sg FloatKind.f32.format v) := by
    rw [hxe, sg_write, hsp, i4, sb]
  have hN : vOf (n.natAbs * mv) ev = (n.natAbs : Rat) * rval FloatKind.f32.format (ru FloatKind.f32.format v) := by
    rw [hr]; unfold vOf; rw [Rat.natCast_mul]; grind
  rw [hN] at n1 n2
  rw [quant_near (N := n.natAbs) hn (by rw [hrx]; exact hfin) hv h0 (by rw [hrx]; exact n1) (by rw [hrx]; exact n2), hsx]
  congr 1
  have : ((decide (n < 0) ^^ sg FloatKind.f32.format v) ^^ sg FloatKind.f32.format v) = decide (n < 0) := by
    cases decide (n < 0) <;> cases sg FloatKind.f32.format v <;> rfl
  rw [this]
  unfold sgI
  by_cases h : n < 0
  · rw [decide_eq_true h, if_pos rfl]; omega
  · rw [decide_eq_false h, if_neg (by decide)]; omega
end Go.Proofs.Ytldcciipicnooaa
