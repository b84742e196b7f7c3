/- The unary minus of a float. No program in sight. -/
import Derived.Test.YtjgjgjkffoagoaaDoorNum2
namespace Go.Proofs.YtjgjgjkffoagoaaDoor
open Go.RowKit

theorem run_neg_float (k : FloatKind) (b : Nat) : Op.unary .neg (.float k b) = pure (.float k (Op.negFloat k b)) := rfl
theorem run_neg_complex (k : FloatKind) (b c : Nat) : Op.unary .neg (.complex k b c) = pure (.complex k (Op.negFloat k b) (Op.negFloat k c)) := rfl

theorem xor_low (n : Nat) {r : Nat} (h : r < 2 ^ n) : r ^^^ 2 ^ n = 2 ^ n + r := by
  apply Nat.eq_of_testBit_eq
  intro i
  rw [Nat.testBit_xor, Nat.testBit_two_pow]
  rcases Nat.lt_trichotomy i n with hi | hi | hi
  · rw [Nat.testBit_two_pow_add_gt hi, decide_eq_false (by omega)]
    cases r.testBit i <;> rfl
  · subst hi
    rw [Nat.testBit_two_pow_add_eq, Nat.testBit_lt_two_pow h]
    simp
  · have h1 : r.testBit i = false := Nat.testBit_lt_two_pow (Nat.lt_trans h (Nat.pow_lt_pow_right (by omega) hi))
    have h2 : (2 ^ n + r).testBit i = false := Nat.testBit_lt_two_pow (by
      have : 2 ^ (n + 1) ≤ 2 ^ i := Nat.pow_le_pow_right (by omega) hi
      rw [Nat.pow_succ] at this; omega)
    rw [h1, h2]; simp; omega

theorem neg_word (k : FloatKind) {b : Nat} (h : b < 2 ^ k.format.width) : Op.negFloat k b = k.format.word (!sg k.format b) (ru k.format b) := by
  have hr := ru_lt k.format b
  have e : Op.negFloat k b = b ^^^ k.format.signWeight := rfl
  have hw : k.format.signWeight = 2 ^ (k.format.exponentBits + k.format.fractionBits) := rfl
  rw [e]
  have hb := word_sg_ru k.format h
  rw [← hb]
  cases sg k.format b
  · show ru k.format b ^^^ k.format.signWeight = k.format.word (!sg k.format (ru k.format b)) (ru k.format (ru k.format b))
    rw [sg_ru, ru_ru, hw, xor_low _ (by rw [← hw]; exact hr)]
    rfl
  · show (k.format.signWeight + ru k.format b) ^^^ k.format.signWeight = k.format.word (!sg k.format (k.format.word true (ru k.format b))) (ru k.format (k.format.word true (ru k.format b)))
    rw [sg_word _ _ hr, ru_word _ _ hr, hw, ← xor_low _ (by rw [← hw]; exact hr), Nat.xor_assoc, Nat.xor_self, Nat.xor_zero]
    rfl
theorem sg_neg (k : FloatKind) {b : Nat} (h : b < 2 ^ k.format.width) : sg k.format (Op.negFloat k b) = !sg k.format b := by
  rw [neg_word k h, sg_word _ _ (ru_lt _ _)]
theorem ru_neg (k : FloatKind) {b : Nat} (h : b < 2 ^ k.format.width) : ru k.format (Op.negFloat k b) = ru k.format b := by
  rw [neg_word k h, ru_word _ _ (ru_lt _ _)]
theorem neg_lt (k : FloatKind) {b : Nat} (h : b < 2 ^ k.format.width) : Op.negFloat k b < 2 ^ k.format.width := by
  rw [neg_word k h]; exact k.format.word_lt _ (ru_lt _ _)
theorem neg_neg (k : FloatKind) {b : Nat} (_h : b < 2 ^ k.format.width) : Op.negFloat k (Op.negFloat k b) = b := by
  show b ^^^ _ ^^^ _ = b
  rw [Nat.xor_assoc, Nat.xor_self, Nat.xor_zero]
theorem key_neg (k : FloatKind) {b : Nat} (h : b < 2 ^ k.format.width) : key k (Op.negFloat k b) = -key k b := by
  unfold key
  rw [sg_neg k h, ru_neg k h]
  cases sg k.format b <;> simp
theorem val_neg (k : FloatKind) {b : Nat} (h : b < 2 ^ k.format.width) : val k (Op.negFloat k b) = -val k b := by
  unfold val
  rw [sg_neg k h, ru_neg k h]
  cases sg k.format b <;> simp
theorem cw_neg (k : FloatKind) {b c : Nat} (h : b < 2 ^ k.format.width) (h' : c < 2 ^ k.format.width) (e : cw k b = cw k c) : cw k (Op.negFloat k b) = cw k (Op.negFloat k c) := by
  rcases cw_cases k b with ⟨h1, h2⟩ | ⟨h1, h2⟩
  · rcases cw_cases k c with ⟨h3, h4⟩ | ⟨h3, h4⟩
    · rw [cw_none k (by rw [ru_neg k h]; exact h2), cw_none k (by rw [ru_neg k h']; exact h4)]
    · rw [h1, h3] at e; cases e
  · rcases cw_cases k c with ⟨h3, h4⟩ | ⟨h3, h4⟩
    · rw [h1, h3] at e; cases e
    · rw [h1, h3] at e; cases e; rfl
end Go.Proofs.YtjgjgjkffoagoaaDoor
