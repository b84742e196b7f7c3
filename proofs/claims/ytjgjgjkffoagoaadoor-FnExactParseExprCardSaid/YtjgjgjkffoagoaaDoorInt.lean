/- A double cut toward zero; whole numbers. No program in sight. -/
import Derived.Test.YtjgjgjkffoagoaaDoorMk
namespace Go.Proofs.YtjgjgjkffoagoaaDoor
open Go.RowKit
set_option linter.unusedVariables false

/-- The whole part of a rational that is not below 0. -/
def flN (v : Rat) : Nat := v.floor.toNat
theorem flN_spec {v : Rat} (h : 0 ≤ v) : (flN v : Rat) ≤ v ∧ v < (flN v : Rat) + 1 := by
  have h0 : 0 ≤ v.floor := Rat.le_floor_iff.2 (by simpa using h)
  have h1 := Rat.floor_le v
  have h2 := Rat.lt_floor_add_one v
  have e : ((flN v : Nat) : Rat) = (v.floor : Rat) := by
    unfold flN
    rw [← Rat.intCast_natCast, Int.toNat_of_nonneg h0]
  rw [e]
  rw [Rat.intCast_add] at h2
  exact ⟨h1, h2⟩
theorem flN_uniq {v : Rat} {n : Nat} (h1 : (n : Rat) ≤ v) (h2 : v < (n : Rat) + 1) : flN v = n := by
  obtain ⟨a, b⟩ := flN_spec (v := v) (by have : (0 : Rat) ≤ (n : Rat) := by exact_mod_cast Nat.zero_le n
                                         grind)
  have c1 : (n : Rat) < ((flN v + 1 : Nat) : Rat) := by rw [Rat.natCast_add]; grind
  have c2 : (flN v : Rat) < ((n + 1 : Nat) : Rat) := by rw [Rat.natCast_add]; grind
  have d1 := Rat.natCast_lt_natCast.1 c1
  have d2 := Rat.natCast_lt_natCast.1 c2
  omega

theorem cut_down (s : Bool) (n drop : Nat) : Ieee.Toward.zero.cut s n drop = n / 2 ^ drop := by
  unfold Ieee.Toward.cut
  simp only [Bool.toNat_false, Nat.add_zero]
  rw [Nat.shiftLeft_eq, Nat.one_mul]
  rcases Nat.le_total drop (n.log2 + 2) with h | h
  · rw [Nat.min_eq_left h]
  · rw [Nat.min_eq_right h]
    have h1 : n < 2 ^ (n.log2 + 1) := Nat.lt_log2_self
    have h2 : 2 ^ (n.log2 + 1) ≤ 2 ^ (n.log2 + 2) := Nat.pow_le_pow_right (by omega) (by omega)
    have h3 : 2 ^ (n.log2 + 2) ≤ 2 ^ drop := Nat.pow_le_pow_right (by omega) h
    rw [Nat.div_eq_of_lt (by omega), Nat.div_eq_of_lt (by omega)]

theorem floor_number (m : Nat) (p : Int) : m <<< p.toNat / 2 ^ (-p).toNat = flN (vOf m p) := by
  symm
  rw [Nat.shiftLeft_eq]
  have hD : 0 < 2 ^ (-p).toNat := Nat.two_pow_pos _
  have hd := Nat.div_add_mod (m * 2 ^ p.toNat) (2 ^ (-p).toNat)
  have hm := Nat.mod_lt (m * 2 ^ p.toNat) hD
  -- m * 2^p in units of 2^(-(-p).toNat)
  have e : vOf m p * ((2 ^ (-p).toNat : Nat) : Rat) = ((m * 2 ^ p.toNat : Nat) : Rat) := by
    rw [← pw_nat, Rat.natCast_mul, ← pw_nat]
    unfold vOf
    rw [Rat.mul_assoc, ← pw_add]
    congr 2; omega
  generalize m * 2 ^ p.toNat = n at *
  generalize 2 ^ (-p).toNat = D at *
  generalize n / D = k at *
  generalize n % D = r at *
  have hDq : (0 : Rat) < (D : Rat) := by exact_mod_cast hD
  have hn : (n : Rat) = (D : Rat) * (k : Rat) + (r : Rat) := by rw [← hd, Rat.natCast_add, Rat.natCast_mul]
  have hr : (r : Rat) < (D : Rat) := by exact_mod_cast hm
  have hr0 : (0 : Rat) ≤ (r : Rat) := by exact_mod_cast Nat.zero_le r
  refine flN_uniq ?_ ?_
  · refine Rat.le_of_mul_le_mul_right ?_ hDq
    rw [e, hn]; grind
  · refine Rat.lt_of_mul_lt_mul_right ?_ (Rat.le_of_lt hDq)
    rw [e, hn]; grind

theorem integral_fin {b : Nat} (h : ru FloatKind.f64.format b < FloatKind.f64.format.infRung) :
    (FloatKind.f64.format.read b).integral .zero = .number (sg FloatKind.f64.format b) (flN (rval FloatKind.f64.format (ru FloatKind.f64.format b))) 0 := by
  obtain ⟨m, p, e, v⟩ := read_fin _ h
  rw [e, ← v]
  show Ieee.Datum.number _ (Ieee.Toward.zero.cut _ (m <<< p.toNat) (-p).toNat) 0 = _
  rw [cut_down, floor_number]
theorem toInt_fin {b : Nat} (h : ru FloatKind.f64.format b < FloatKind.f64.format.infRung) :
    (FloatKind.f64.format.read b).toInt .zero = some (if sg FloatKind.f64.format b then -(flN (rval FloatKind.f64.format (ru FloatKind.f64.format b)) : Int) else (flN (rval FloatKind.f64.format (ru FloatKind.f64.format b)) : Int)) := by
  unfold Ieee.Datum.toInt
  rw [integral_fin h]
  show some (Ieee.signed _ _ 0) = _
  unfold Ieee.signed
  cases sg FloatKind.f64.format b <;> rfl

/-- 'int(x)'. -/
theorem toIntVal {b : Nat} (h : ru FloatKind.f64.format b < FloatKind.f64.format.infRung) (hv : flN (rval FloatKind.f64.format (ru FloatKind.f64.format b)) ≤ 2000000000) :
    floatToIntVal .f64 b .i64 = some (if sg FloatKind.f64.format b then -(flN (rval FloatKind.f64.format (ru FloatKind.f64.format b)) : Int) else (flN (rval FloatKind.f64.format (ru FloatKind.f64.format b)) : Int)) := by
  have hd : FloatKind.f64.decode b = FloatKind.f64.format.read b := rfl
  unfold floatToIntVal
  rw [hd, toInt_fin h]
  have h1 : IntKind.i64.min = -9223372036854775808 := by decide
  have h2 : IntKind.i64.max = 9223372036854775807 := by decide
  simp only
  rw [if_pos]
  rw [h1, h2]
  split <;> omega

/-- THE WALK's RULE: 'int(x)' of a double. -/
theorem wpl_toInt {P : Program} {ops : Array Oper} {rest : List Oper} {o : Oper} {a : Act} {w : World} {Q : Exit → Act → World → Prop} (dd : Tmp) {src dst : TypeId} {x : Operand} {b : Nat} {u : TypeDesc} {n : Int}
    (hs : P.underlying src = some u) (hd : P.underlying dst = some (.int .i64)) (hgd : Region.wanted o (yielded ops a.tmps) = true) (hdst : o.dst = some dd) (ho : o.op = .convert src dst x) (hx : a.eval x = .float .f64 b)
    (hn : floatToIntVal .f64 b .i64 = some n)
    (h : wpList P ops Q rest (a.put (some dd) (.int .i64 n)) w) :
    wpList P ops Q (o :: rest) a w := by
  refine wpList_want hgd fun K hK => ?_
  have hr := run_convert_float_int w src dst .f64 .i64 b n (by rw [hs]; rfl) hd hn
  have hr' : (execOp a.eval o).run P w = .ok (.value (.int .i64 n)) w := by
    simp [execOp, ho, hx, hr]
  unfold Oper.wp
  rw [hr']
  show K (a.put o.dst (.int .i64 n)) w
  rw [hdst]
  exact hK _ _ h

/-- Words that stand for whole numbers, with their sign. -/
theorem Is.int {b n : Nat} (h : Is b n 0) : flN (rval FloatKind.f64.format (ru FloatKind.f64.format b)) = n := by
  refine flN_uniq ?_ ?_ <;> (rw [h.2.2.2]; unfold vOf; rw [pw_zero]; grind)
theorem Is.trunc {b : Nat} (_h : ru FloatKind.f64.format b < FloatKind.f64.format.infRung) (hs : sg FloatKind.f64.format b = false) (hv : flN (rval FloatKind.f64.format (ru FloatKind.f64.format b)) < 2 ^ 53) :
    Is (FloatKind.f64.format.write (.number (sg FloatKind.f64.format b) (flN (rval FloatKind.f64.format (ru FloatKind.f64.format b))) 0)) (flN (rval FloatKind.f64.format (ru FloatKind.f64.format b))) 0 := by
  rw [hs]
  exact Is.write rfl hv (by omega) (by omega)
theorem toInt_is {t n : Nat} (h : Is t n 0) (hn : n ≤ 2000000000) : floatToIntVal .f64 t .i64 = some (n : Int) := by
  rw [toIntVal h.2.2.1 (by rw [h.int]; exact hn), h.int, h.2.1]; rfl
end Go.Proofs.YtjgjgjkffoagoaaDoor
