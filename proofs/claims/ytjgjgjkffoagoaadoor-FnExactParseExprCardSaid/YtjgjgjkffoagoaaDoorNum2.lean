/- Doubling and halving are exact; a number times a power of two. No program in sight. -/
import Derived.Test.YtjgjgjkffoagoaaDoorNum
namespace Go.Proofs.YtjgjgjkffoagoaaDoor
open Go.RowKit

theorem rung_congr (f : Ieee.Format) {m n : Nat} {p q : Int} (h : vOf m p = vOf n q) : rungOf f m p = rungOf f n q := by
  have h1 := rung_mono f (show vOf m p ≤ vOf n q from h ▸ Rat.le_refl)
  have h2 := rung_mono f (show vOf n q ≤ vOf m p from h ▸ Rat.le_refl)
  omega

/-- The double of a whole number times a power of two. -/
def Is (b : Nat) (m : Nat) (p : Int) : Prop := b < 2 ^ 64 ∧ sg FloatKind.f64.format b = false ∧ ru FloatKind.f64.format b < FloatKind.f64.format.infRung ∧ rval FloatKind.f64.format (ru FloatKind.f64.format b) = vOf m p
theorem Is.uniq {b c m : Nat} {p : Int} (h : Is b m p) (h' : Is c m p) : b = c := by
  obtain ⟨a1, a2, a3, a4⟩ := h
  obtain ⟨c1, c2, c3, c4⟩ := h'
  have e := rval_inj _ (a4.trans c4.symm)
  rw [← word_sg_ru FloatKind.f64.format (b := b) a1, ← word_sg_ru FloatKind.f64.format (b := c) c1, a2, c2, e]
theorem Is.congr {b m n : Nat} {p q : Int} (h : Is b m p) (e : vOf m p = vOf n q) : Is b n q := ⟨h.1, h.2.1, h.2.2.1, h.2.2.2.trans e⟩
theorem Is.cw {b m : Nat} {p : Int} (h : Is b m p) : cw .f64 b = some b := cw_some .f64 (Nat.le_of_lt h.2.2.1)
theorem vOf_lt_pw {m k : Nat} {p : Int} (h : m < 2 ^ k) : vOf m p < pw (k + p) := by
  have hm : (m : Rat) < pw (k : Nat) := by rw [pw_nat]; exact_mod_cast h
  have hlt : vOf m p < pw (k : Nat) * pw p := Rat.mul_lt_mul_of_pos_right hm (pw_pos p)
  rw [← pw_add] at hlt
  exact hlt
/-- A number with at most 53 digits, not too great or small, is a double. -/
theorem rung_fits {m : Nat} {p : Int} (h1 : m < 2 ^ 53) (h2 : -1074 ≤ p) (h3 : p ≤ 900) : rval FloatKind.f64.format (rungOf FloatKind.f64.format m p) = vOf m p ∧ rungOf FloatKind.f64.format m p < FloatKind.f64.format.infRung := by
  have h := rval_exact FloatKind.f64.format m p (by rw [b64]; omega) (by rw [l64]; omega)
  refine ⟨h, ?_⟩
  rw [← rval_lt_iff FloatKind.f64.format, h, rval_inf]
  have hlt := vOf_lt_pw (p := p) h1
  have hle : pw ((53 : Nat) + p) ≤ pw 1024 := pw_le (by omega)
  grind
theorem Is.write {m n : Nat} {p q : Int} (e : vOf n q = vOf m p) (h1 : m < 2 ^ 53) (h2 : -1074 ≤ p) (h3 : p ≤ 900) : Is (FloatKind.f64.format.write (.number false n q)) m p := by
  obtain ⟨a, b⟩ := rung_fits h1 h2 h3
  have hr : ru FloatKind.f64.format (FloatKind.f64.format.write (.number false n q)) = rungOf FloatKind.f64.format m p := by
    rw [ru_write, rung_congr _ e]; omega
  exact ⟨FloatKind.f64.format.write_lt _, sg_write _ _ _ _, by rw [hr]; exact b, by rw [hr]; exact a⟩

theorem two_ru : ru FloatKind.f64.format 4611686018427387904 = 4611686018427387904 ∧ sg FloatKind.f64.format 4611686018427387904 = false ∧ FloatKind.f64.format.read 4611686018427387904 = .number false 4503599627370496 (-51) := by decide
theorem two_val : rval FloatKind.f64.format 4611686018427387904 = 2 := by
  have h := two_ru
  obtain ⟨m, p, e, v⟩ := read_fin FloatKind.f64.format (b := 4611686018427387904) (by rw [h.1, i64]; decide)
  rw [h.2.2] at e
  injection e with _ e1 e2
  subst e1; subst e2
  rw [h.1] at v
  rw [← v, show (4503599627370496 : Nat) = 1 * 2 ^ 52 by decide, vOf_shift]
  unfold vOf
  rw [show (-51 : Int) + ((52 : Nat) : Int) = 1 by omega, pw_one]
  simp

theorem mul_two {x : Nat} (hx : ru FloatKind.f64.format x < FloatKind.f64.format.infRung) :
    ∃ m p, floatBits .mul .f64 x 4611686018427387904 = some (FloatKind.f64.format.write (.number (sg FloatKind.f64.format x) m p)) ∧ vOf m p = rval FloatKind.f64.format (ru FloatKind.f64.format x) * 2 := by
  have h := two_ru
  obtain ⟨m, p, e, v⟩ := mul_fin .f64 hx (y := 4611686018427387904) (by rw [h.1, i64]; decide)
  rw [h.1, two_val] at v
  rw [h.2.1, Bool.xor_false] at e
  exact ⟨m, p, e, v⟩

theorem div_two {x : Nat} (hx : ru FloatKind.f64.format x < FloatKind.f64.format.infRung) :
    ∃ m p, floatBits .quo .f64 x 4611686018427387904 = some (FloatKind.f64.format.write (.number (sg FloatKind.f64.format x) m p)) ∧ vOf m p * 2 = rval FloatKind.f64.format (ru FloatKind.f64.format x) := by
  have h := two_ru
  obtain ⟨m, i, e, v⟩ := read_fin FloatKind.f64.format hx
  have hm : m < 2 ^ 53 := by
    have := (read_mag FloatKind.f64.format x e).1
    rw [b64] at this; omega
  have hl : m.log2 ≤ 52 := by
    by_cases h0 : m = 0
    · subst h0; decide
    · exact log2_le_of (k := 52) (by omega) h0
  have hq : (Ieee.Datum.number (sg FloatKind.f64.format x) m i).quotient 54 (.number false 4503599627370496 (-51)) =
      some (.number (sg FloatKind.f64.format x ^^ false) (2 * ((m <<< (54 + 52 - m.log2)) / 4503599627370496) + ((m <<< (54 + 52 - m.log2)) % 4503599627370496 != 0).toNat) (i - (-51) - ((54 + 52 - m.log2 : Nat) : Int) - 1)) := by
    have hlog : (4503599627370496 : Nat).log2 = 52 := by decide
    unfold Ieee.Datum.quotient
    simp only [hlog]
    rfl
  have hshift : m <<< (54 + 52 - m.log2) = (m * 2 ^ (54 - m.log2)) * 4503599627370496 := by
    rw [Nat.shiftLeft_eq, show 54 + 52 - m.log2 = (54 - m.log2) + 52 by omega, Nat.pow_add, ← Nat.mul_assoc]
  rw [hshift, Nat.mul_div_cancel _ (by decide), Nat.mul_mod_left, Bool.xor_false] at hq
  refine ⟨2 * (m * 2 ^ (54 - m.log2)) + ((0 : Nat) != 0).toNat, i - -51 - ((54 + 52 - m.log2 : Nat) : Int) - 1, ?_, ?_⟩
  · show ((FloatKind.f64.format.read x).quotient (FloatKind.f64.format.fractionBits + 2) (FloatKind.f64.format.read 4611686018427387904)).map FloatKind.f64.format.write = _
    rw [e, h.2.2]
    show ((Ieee.Datum.number (sg FloatKind.f64.format x) m i).quotient 54 (.number false 4503599627370496 (-51))).map _ = _
    rw [hq]
    rfl
  · rw [← v]
    have e1 : 2 * (m * 2 ^ (54 - m.log2)) + ((0 : Nat) != 0).toNat = m * 2 ^ (55 - m.log2) := by
      rw [show 55 - m.log2 = (54 - m.log2) + 1 by omega, Nat.pow_succ]
      simp; grind
    rw [e1, vOf_shift]
    have e2 : i - -51 - ((54 + 52 - m.log2 : Nat) : Int) - 1 + ((55 - m.log2 : Nat) : Int) = i - 1 := by omega
    rw [e2]
    unfold vOf
    have := pw_succ (i - 1)
    rw [Int.sub_add_cancel] at this
    rw [this]; grind

theorem vOf_succ (m : Nat) (p : Int) : vOf m p * 2 = vOf m (p + 1) := by
  unfold vOf; rw [pw_succ]; grind
theorem vOf_pred (m : Nat) (p : Int) : vOf m (p - 1) * 2 = vOf m p := by
  rw [vOf_succ, Int.sub_add_cancel]

/-- 'a * 2'. -/
theorem Is.dbl {b r m : Nat} {p : Int} (h : Is b m p) (h1 : m < 2 ^ 53) (h2 : -1074 ≤ p) (h3 : p < 900) (hr : _root_.Go.Proofs.YtjgjgjkffoagoaaDoor.cw .f64 r = arithR .mul .f64 (_root_.Go.Proofs.YtjgjgjkffoagoaaDoor.cw .f64 b) (_root_.Go.Proofs.YtjgjgjkffoagoaaDoor.cw .f64 4611686018427387904)) : Is r m (p + 1) := by
  rw [floatBits_cw] at hr
  obtain ⟨n, q, e, v⟩ := mul_two h.2.2.1
  rw [e, h.2.1] at hr
  have hr' : r = FloatKind.f64.format.write (.number false n q) := by
    rcases cw_cases .f64 r with ⟨h3, _⟩ | ⟨h3, _⟩
    · rw [h3] at hr; cases hr
    · rw [h3] at hr; injection hr
  rw [hr']
  refine Is.write ?_ h1 (by omega) (by omega)
  rw [v, h.2.2.2, vOf_succ]
/-- 'a / 2'. -/
theorem Is.half {b r m : Nat} {p : Int} (h : Is b m p) (h1 : m < 2 ^ 53) (h2 : -1074 < p) (h3 : p ≤ 900) (hr : _root_.Go.Proofs.YtjgjgjkffoagoaaDoor.cw .f64 r = arithR .quo .f64 (_root_.Go.Proofs.YtjgjgjkffoagoaaDoor.cw .f64 b) (_root_.Go.Proofs.YtjgjgjkffoagoaaDoor.cw .f64 4611686018427387904)) : Is r m (p - 1) := by
  rw [floatBits_cw] at hr
  obtain ⟨n, q, e, v⟩ := div_two h.2.2.1
  rw [e, h.2.1] at hr
  have hr' : r = FloatKind.f64.format.write (.number false n q) := by
    rcases cw_cases .f64 r with ⟨h3, _⟩ | ⟨h3, _⟩
    · rw [h3] at hr; cases hr
    · rw [h3] at hr; injection hr
  rw [hr']
  refine Is.write ?_ h1 (by omega) (by omega)
  have := vOf_pred m p
  rw [h.2.2.2, ← this] at v
  have h4 : (vOf n q - vOf m (p - 1)) * 2 = 0 := by grind
  grind

/-- The rung of a number times a power of two, both normal. -/
theorem rung_ldexp {r : Nat} {e : Int} (h0 : FloatKind.f64.format.binade ≤ r) (h1 : 0 ≤ (expo FloatKind.f64.format r : Int) + e) : 
    rval FloatKind.f64.format ((r : Int) + e * FloatKind.f64.format.binade).toNat = rval FloatKind.f64.format r * pw e := by
  obtain ⟨d1, d2, d3⟩ := digits FloatKind.f64.format r
  have hb := binade_pos FloatKind.f64.format
  have hs : FloatKind.f64.format.binade ≤ r - expo FloatKind.f64.format r * FloatKind.f64.format.binade := by
    rcases d3 with d3 | d3
    · rw [d3]; omega
    · exact d3
  rw [rval_def FloatKind.f64.format r]
  generalize hE : expo FloatKind.f64.format r = E at *
  generalize hS : r - E * FloatKind.f64.format.binade = S at *
  have e1 : ((r : Int) + e * FloatKind.f64.format.binade).toNat = ((E : Int) + e).toNat * FloatKind.f64.format.binade + S := by
    have h2 : ((((E : Int) + e).toNat * FloatKind.f64.format.binade + S : Nat) : Int) = (r : Int) + e * FloatKind.f64.format.binade := by
      rw [Int.natCast_add, Int.natCast_mul, show ((((E : Int) + e).toNat : Nat) : Int) = (E : Int) + e by omega, Int.add_mul, d1, Int.natCast_add, Int.natCast_mul]
      omega
    omega
  rw [e1, rval_kept _ _ _ (Nat.le_of_lt d2) (.inr hs)]
  unfold vOf
  rw [show FloatKind.f64.format.leastPlace + ((((E : Int) + e).toNat : Nat) : Int) = FloatKind.f64.format.leastPlace + (E : Int) + e by omega, pw_add _ e]
  grind
end Go.Proofs.YtjgjgjkffoagoaaDoor
