/- The text of a finite single that is not below 0: its odd amount and its place; Frexp and Ldexp at such numbers. Condition of the texts: the table of powers of ten is laid. -/
import Derived.Test.YtjgjgjkffoagoaaDoorInt
import Derived.Test.YtjgjgjkffoagoaaDoorGood
import Derived.Test.YtjgjgjkffoagoaaDoorPu2
namespace Go.Proofs.YtjgjgjkffoagoaaDoor
open Go.RowKit
open Go.Lib (itoa decDigits nDigits nDigits_le20 itoa_length_le)
set_option maxRecDepth 100000
set_option linter.unusedVariables false
set_option linter.unusedSimpArgs false

/-- A finite single that is not below 0. -/
def GS (y : Nat) : Prop := y < 2 ^ 32 ∧ ru FloatKind.f32.format y < FloatKind.f32.format.infRung ∧ sg FloatKind.f32.format y = false
theorem GS.ru {y : Nat} (h : GS y) : _root_.Go.Proofs.YtjgjgjkffoagoaaDoor.ru FloatKind.f32.format y = y := word_false (f := FloatKind.f32.format) h.1 h.2.2
theorem GS.val {y : Nat} (h : GS y) : _root_.Go.Proofs.YtjgjgjkffoagoaaDoor.val .f32 y = rval FloatKind.f32.format y := by
  unfold _root_.Go.Proofs.YtjgjgjkffoagoaaDoor.val
  rw [h.2.2, h.ru]; rfl
theorem GS.inj {y z : Nat} (h : GS y) (h' : GS z) (e : _root_.Go.Proofs.YtjgjgjkffoagoaaDoor.val .f32 y = _root_.Go.Proofs.YtjgjgjkffoagoaaDoor.val .f32 z) : y = z := by
  rw [h.val, h'.val] at e
  exact rval_inj _ e
theorem b32' : FloatKind.f32.format.binade = 8388608 := by decide
theorem i32' : FloatKind.f32.format.infRung = 255 * 8388608 := by decide
/-- Its amount and its place. -/
theorem GS.parts {y : Nat} (h : GS y) (h0 : y ≠ 0) : ∃ (m : Nat) (p : Int), 0 < m ∧ m < 2 ^ 24 ∧ -149 ≤ p ∧ p ≤ 104 ∧ _root_.Go.Proofs.YtjgjgjkffoagoaaDoor.val .f32 y = vOf m p := by
  have hr := h.2.1
  rw [h.ru, i32'] at hr
  refine ⟨y - expo FloatKind.f32.format y * FloatKind.f32.format.binade, FloatKind.f32.format.leastPlace + expo FloatKind.f32.format y, ?_, ?_, ?_, ?_, h.val⟩
  all_goals (unfold expo; rw [b32']; try rw [l32])
  · omega
  · omega
  · omega
  · omega
theorem pw_128 {m : Nat} {p : Int} (h : m < 2 ^ 24) (hp : p ≤ 104) : vOf m p < pw 128 := by
  have h1 := vOf_lt_pw (p := p) h
  have h2 : pw (((24 : Nat) : Int) + p) ≤ pw 128 := pw_le (by omega)
  grind
theorem pw_le_vOf {m : Nat} (p : Int) (h : 0 < m) : pw p ≤ vOf m p := by
  unfold vOf
  have : (1 : Rat) ≤ (m : Rat) := by exact_mod_cast h
  have := pw_pos p
  have h2 := Rat.mul_le_mul_of_nonneg_right ‹(1 : Rat) ≤ (m : Rat)› (Rat.le_of_lt this)
  rw [Rat.one_mul] at h2
  exact h2
theorem vOf_inj {m n : Nat} {p : Int} (h : vOf m p = vOf n p) : m = n := by
  unfold vOf at h
  have h1 : (m : Rat) = (n : Rat) := by
    have := pw_pos p
    have h2 := congrArg (· * (pw p)⁻¹) h
    simp only [Rat.mul_assoc] at h2
    rw [Rat.mul_inv_cancel _ (lt_of_pos this), Rat.mul_one, Rat.mul_one] at h2
    exact h2
  exact_mod_cast h1
/-- Of two amounts of one value the one at the lower place is the other times a power of two. -/
theorem vOf_two {m n : Nat} {p q : Int} (h : vOf m p = vOf n q) (hq : p ≤ q) : m = n * 2 ^ (q - p).toNat := by
  have h2 := vOf_shift n (q - p).toNat p
  rw [show p + ((q - p).toNat : Int) = q by omega] at h2
  exact vOf_inj (h.trans h2.symm)
theorem odd_uniq {m n : Nat} {p q : Int} (hm : m % 2 = 1) (hn : n % 2 = 1) (h : vOf m p = vOf n q) : m = n ∧ p = q := by
  have key : ∀ {m n : Nat} {p q : Int}, m % 2 = 1 → vOf m p = vOf n q → p < q → False := by
    intro m n p q hm h hlt
    have h2 := vOf_two h (by omega)
    obtain ⟨k, hk⟩ : ∃ k, (q - p).toNat = k + 1 := ⟨(q - p).toNat - 1, by omega⟩
    rw [hk, Nat.pow_succ, ← Nat.mul_assoc] at h2
    omega
  rcases Int.lt_trichotomy p q with h1 | h1 | h1
  · exact (key hm h h1).elim
  · subst h1; exact ⟨vOf_inj h, rfl⟩
  · exact (key hn h.symm h1).elim

/-! ### Frexp, plainly -/
theorem b64_bits {b : Nat} (h : b < 2 ^ 64) (hs : sg FloatKind.f64.format b = false) : ru FloatKind.f64.format b = b := word_false (f := FloatKind.f64.format) h hs
theorem small_word {x : Nat} (h : x < 9218868437227405312) : x < 2 ^ 64 ∧ sg FloatKind.f64.format x = false ∧ ru FloatKind.f64.format x = x ∧ ru FloatKind.f64.format x < FloatKind.f64.format.infRung := by
  have h1 : sg FloatKind.f64.format x = false := by unfold sg; rw [s64, Nat.div_eq_of_lt (by omega)]; rfl
  have h2 : ru FloatKind.f64.format x = x := by unfold ru; rw [s64]; exact Nat.mod_eq_of_lt (by omega)
  exact ⟨by omega, h1, h2, by rw [h2, i64]; exact h⟩
theorem rval_norm (E F : Nat) (hE : 1 ≤ E) (hF : F < 4503599627370496) : rval FloatKind.f64.format (E * 4503599627370496 + F) = vOf (4503599627370496 + F) ((E : Int) - 1075) := by
  have hx : expo FloatKind.f64.format (E * 4503599627370496 + F) = E - 1 := by unfold expo; rw [b64]; omega
  unfold rval
  rw [hx, b64, l64]
  congr 1
  · omega
  · omega
theorem frexp_parts {b m : Nat} {p : Int} (h : Is b m p) (h0 : 0 < m) (hm : m < 2 ^ 24) (hp : -149 ≤ p) :
    ∃ E F M : Nat, b = E * 4503599627370496 + F ∧ F < 4503599627370496 ∧ 1 ≤ E ∧ E ≤ 2046 ∧ 0 < M ∧ M < 2 ^ 24 ∧ Is (1022 * 4503599627370496 + F) M (-24) ∧ vOf M ((E : Int) - 1046) = vOf m p := by
  have hb := b64_bits h.1 h.2.1
  have hbl := h.2.2.1
  have hv := h.2.2.2
  rw [hb] at hbl hv
  rw [i64] at hbl
  obtain ⟨E, hE⟩ : ∃ E, E = b / 4503599627370496 := ⟨_, rfl⟩
  obtain ⟨F, hF⟩ : ∃ F, F = b % 4503599627370496 := ⟨_, rfl⟩
  have hFl : F < 4503599627370496 := by omega
  have hbe : b = E * 4503599627370496 + F := by omega
  have hE1 : 1 ≤ E := by
    rcases Nat.eq_zero_or_pos E with hz | hz
    · exfalso
      have hbs : b < 4503599627370496 := by omega
      have hr : rval FloatKind.f64.format b = vOf b (-1074) := by
        unfold rval
        rw [expo_small _ (by rw [b64]; exact hbs), l64]
        simp
      rw [hr] at hv
      have h1 := vOf_lt_pw (m := b) (k := 52) (p := -1074) (by omega)
      have h2 := pw_le_vOf p h0
      have h3 : pw (((52 : Nat) : Int) + -1074) ≤ pw p := pw_le (by omega)
      rw [hv] at h1
      grind
    · exact hz
  rw [hbe, rval_norm E F hE1 hFl] at hv
  have hq : 28 < p - ((E : Int) - 1075) := by
    have h1 := vOf_lt_pw (p := p) hm
    rw [← hv] at h1
    have h2 := vOf_shift 1 52 ((E : Int) - 1075)
    have h3 : vOf (1 * 2 ^ 52) ((E : Int) - 1075) ≤ vOf (4503599627370496 + F) ((E : Int) - 1075) := by
      unfold vOf
      refine Rat.mul_le_mul_of_nonneg_right ?_ (Rat.le_of_lt (pw_pos _))
      exact_mod_cast (show 1 * 2 ^ 52 ≤ 4503599627370496 + F by omega)
    rw [h2] at h3
    have h4 := pw_le_vOf (m := 1) ((E : Int) - 1075 + ((52 : Nat) : Int)) (by omega)
    have h5 : pw ((E : Int) - 1075 + ((52 : Nat) : Int)) < pw (((24 : Nat) : Int) + p) := by grind
    have := pw_lt_iff.1 h5
    omega
  have hk := vOf_two hv (by omega)
  obtain ⟨k, hk2⟩ : ∃ k, (p - ((E : Int) - 1075)).toNat = k + 29 := ⟨(p - ((E : Int) - 1075)).toNat - 29, by omega⟩
  rw [hk2, Nat.pow_add, ← Nat.mul_assoc] at hk
  obtain ⟨M, hM⟩ : ∃ M, M = m * 2 ^ k := ⟨_, rfl⟩
  rw [← hM] at hk
  have hw := small_word (x := 1022 * 4503599627370496 + F) (by omega)
  have s29 := vOf_shift M 29
  refine ⟨E, F, M, hbe, hFl, hE1, by omega, by omega, by omega, ⟨hw.1, hw.2.1, hw.2.2.2, ?_⟩, ?_⟩
  · rw [hw.2.2.1, rval_norm 1022 F (by omega) hFl, hk, s29]
    congr 1
  · rw [← hv, hk, s29]
    congr 1
    omega

theorem normal_ne0 {b m : Nat} {p : Int} (h : Is b m p) (h0 : 0 < m) : (FloatKind.f64.format.order b 0 == some .eq) = false := by rw [h.eq0]; simp; omega
/-- What Frexp lays together. -/
theorem frexp_word (E F : Nat) (hE : E ≤ 2046) (hF : F < 4503599627370496) :
    (bits BinOp.or IntKind.u64 (bits BinOp.andNot IntKind.u64 (((E * 4503599627370496 + F : Nat)) : Int) 9218868437227405312) 4602678819172646912).toNat = 1022 * 4503599627370496 + F := by
  rw [show (9218868437227405312 : Int) = ((9218868437227405312 : Nat) : Int) from rfl, u64_andNot_nat _ _ (by omega) (by decide), and_mask _ (by omega),
    show (4602678819172646912 : Int) = ((1022 * 4503599627370496 : Nat) : Int) by decide, u64_or_nat _ _ (by omega) (by decide), or_join _ _ (Nat.mod_lt _ (by decide))]
  omega
theorem exp_bits (E : Nat) (hE : E ≤ 2046) : bits BinOp.and IntKind.u64 (E : Int) 2047 = (E : Int) := by
  rw [show (2047 : Int) = ((2047 : Nat) : Int) from rfl, u64_and_nat _ _ (by omega) (by decide), Nat.and_two_pow_sub_one_eq_mod E 11]
  omega
end Go.Proofs.YtjgjgjkffoagoaaDoor
