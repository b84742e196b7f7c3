/- A single from sign, mantissa and exponent: the program's way (Ldexp) and the reference's (doubling, halving) come to the same. -/
import Derived.Test.YtjgjgjkffoagoaaDoorNeg
namespace Go.Proofs.YtjgjgjkffoagoaaDoor
open Go.RowKit
attribute [local go_sem] run_neg_float

/-- What 'Signed' answers. -/
def signedF (s : List UInt8) (x : Nat) : Nat × Bool := if s == [43] then (x, true) else if s == [45] then (Op.negFloat .f32 x, true) else (0, false)
theorem signedS_any (s : ByteArray) (x : Nat) (w : World) :
    Calls Tryd.prog 72 #[.string s, .float .f32 x] w fun e w' => e = .returned (.tuple #[.float .f32 (signedF s.toList x).1, .bool (signedF s.toList x).2]) ∧ w' = w := by
  cases h1 : s.toList == [43]
  · cases h2 : s.toList == [45]
    · have H : Hid (signedF s.toList x = (0, false)) := Lib.hid (by simp only [signedF, h1, h2]; rfl)
      go_enter Tryd.func72, Tryd.ntmps72
      go_wp2
      go_ret2
      exact ⟨by rw [H.out]; rfl, rfl⟩
    · have H : Hid (signedF s.toList x = (Op.negFloat .f32 x, true)) := Lib.hid (by simp only [signedF, h1, h2]; rfl)
      go_enter Tryd.func72, Tryd.ntmps72
      go_wp2
      go_ret2
      exact ⟨by rw [H.out]; rfl, rfl⟩
  · have H : Hid (signedF s.toList x = (x, true)) := Lib.hid (by simp only [signedF, h1]; rfl)
    go_enter Tryd.func72, Tryd.ntmps72
    go_wp2
    go_ret2
    exact ⟨by rw [H.out]; rfl, rfl⟩
theorem signedI_any (s : ByteArray) (x : Nat) (w : World) :
    Calls Tryd.prog 102 #[.string s, .float .f32 x] w fun e w' => e = .returned (.tuple #[.float .f32 (signedF s.toList x).1, .bool (signedF s.toList x).2]) ∧ w' = w := by
  cases h1 : s.toList == [43]
  · cases h2 : s.toList == [45]
    · have H : Hid (signedF s.toList x = (0, false)) := Lib.hid (by simp only [signedF, h1, h2]; rfl)
      go_enter Tryd.func102, Tryd.ntmps102
      go_wp2
      go_ret2
      exact ⟨by rw [H.out]; rfl, rfl⟩
    · have H : Hid (signedF s.toList x = (Op.negFloat .f32 x, true)) := Lib.hid (by simp only [signedF, h1, h2]; rfl)
      go_enter Tryd.func102, Tryd.ntmps102
      go_wp2
      go_ret2
      exact ⟨by rw [H.out]; rfl, rfl⟩
  · have H : Hid (signedF s.toList x = (x, true)) := Lib.hid (by simp only [signedF, h1]; rfl)
    go_enter Tryd.func102, Tryd.ntmps102
    go_wp2
    go_ret2
    exact ⟨by rw [H.out]; rfl, rfl⟩

/-- float64(m) of a whole number. -/
theorem Is.ofNat {m : Nat} (h : m < 2 ^ 53) : Is (floatOfInt .f64 (m : Int)) m 0 := by
  have e : floatOfInt .f64 (m : Int) = FloatKind.f64.format.write (.number false m 0) := by
    show FloatKind.f64.format.write (.number (decide ((m : Int) < 0)) (m : Int).natAbs 0) = _
    rw [decide_eq_false (by omega)]; rfl
  rw [e]
  exact Is.write rfl h (by omega) (by omega)
theorem Is.pos {b m : Nat} {p : Int} (h : Is b m p) (hm : 0 < m) : 0 < ru FloatKind.f64.format b := by
  rcases Nat.eq_zero_or_pos (ru FloatKind.f64.format b) with h0 | h0
  · have := h.2.2.2
    rw [h0, rval_zero] at this
    have h2 := vOf_pos p hm
    grind
  · exact h0
theorem Is.zero {b : Nat} {p : Int} (h : Is b 0 p) : b = 0 := by
  have h1 := h.2.2.2
  rw [vOf_zero, ← rval_zero FloatKind.f64.format] at h1
  have h2 := rval_inj _ h1
  have h3 := word_sg_ru FloatKind.f64.format (b := b) h.1
  rw [h.2.1, h2] at h3
  exact h3.symm
theorem Is.eq0 {b m : Nat} {p : Int} (h : Is b m p) : (FloatKind.f64.format.order b 0 == some .eq) = decide (m = 0) := by
  rw [ord_eq .f64 (Nat.le_of_lt h.2.2.1) (by rw [ru_zero]; exact Nat.zero_le _), key_pos .f64 h.2.1, key_pos .f64 (sg_zero .f64), ru_zero]
  rcases Nat.eq_zero_or_pos m with h0 | h0
  · subst h0; rw [h.zero, ru_zero]; rfl
  · have := h.pos h0
    rw [Bool.eq_iff_iff]; simp; omega

/-- The rung of a whole number from 1 to 2^24. -/
theorem Is.normal {b m : Nat} (h : Is b m 0) (h0 : 0 < m) (h1 : m < 2 ^ 24) : 1023 * 4503599627370496 ≤ ru FloatKind.f64.format b ∧ ru FloatKind.f64.format b < 1047 * 4503599627370496 := by
  have one : ∀ d : Nat, rval FloatKind.f64.format (d * FloatKind.f64.format.binade + FloatKind.f64.format.binade) = pw ((d : Int) - 1022) := fun d => by
    rw [rval_kept _ d _ (by have := binade_pos FloatKind.f64.format; omega) (.inr (Nat.le_refl _)), l64, b64, show (4503599627370496 : Nat) = 1 * 2 ^ 52 by decide, vOf_shift]
    unfold vOf
    rw [show (-1074 : Int) + (d : Int) + ((52 : Nat) : Int) = (d : Int) - 1022 by omega]
    simp
  have a := one 1022
  have c := one 1046
  rw [b64] at a c
  constructor
  · rcases Nat.lt_or_ge (ru FloatKind.f64.format b) (1023 * 4503599627370496) with h2 | h2
    · have h3 := rval_lt FloatKind.f64.format (show ru FloatKind.f64.format b < 1022 * 4503599627370496 + 4503599627370496 by omega)
      rw [h.2.2.2, a] at h3
      have h4 : (1 : Rat) ≤ vOf m 0 := by unfold vOf; rw [pw_zero]; have : (1 : Rat) ≤ (m : Rat) := by exact_mod_cast h0
                                          grind
      rw [show ((1022 : Nat) : Int) - 1022 = 0 by omega, pw_zero] at h3
      grind
    · exact h2
  · rcases Nat.lt_or_ge (ru FloatKind.f64.format b) (1047 * 4503599627370496) with h2 | h2
    · exact h2
    · have h3 := rval_le FloatKind.f64.format (show 1046 * 4503599627370496 + 4503599627370496 ≤ ru FloatKind.f64.format b by omega)
      rw [h.2.2.2, c] at h3
      have h4 := vOf_lt_pw (p := 0) h1
      rw [show ((1046 : Nat) : Int) - 1022 = ((24 : Nat) : Int) + 0 by omega] at h3
      grind

theorem abs_any' (b : Nat) (w : World) (hb : b < 2 ^ 64) (hs : sg FloatKind.f64.format b = false) :
    Calls Tryd.prog 74 #[.float .f64 b] w fun e w' => e = .returned (.float .f64 b) ∧ w' = w := by
  have h := word_sg_ru FloatKind.f64.format (b := b) hb
  rw [hs] at h
  have h2 : ru FloatKind.f64.format b = b := h
  have := abs_any b w hb
  rw [h2] at this
  exact this

theorem normalize_any (b : Nat) (w : World) (hb : b < 2 ^ 64) (hs : sg FloatKind.f64.format b = false) (h1 : 4503599627370496 ≤ ru FloatKind.f64.format b) (h2 : ru FloatKind.f64.format b < FloatKind.f64.format.infRung) :
    Calls Tryd.prog 109 #[.float .f64 b] w fun e w' => e = .returned (.tuple #[.float .f64 b, .int .i64 0]) ∧ w' = w := by
  have h : (FloatKind.f64.format.order b 4503599627370496 == some .lt) = false := by
    have a1 : ru FloatKind.f64.format 4503599627370496 = 4503599627370496 := by decide
    have a2 : sg FloatKind.f64.format 4503599627370496 = false := by decide
    rw [ord_lt .f64 (Nat.le_of_lt h2) (by rw [a1, i64]; decide), key_pos .f64 hs, key_pos .f64 a2, a1]
    simp; omega
  have HB := Lib.hid hb
  have HS := Lib.hid hs
  clear hb hs h1 h2
  go_enter Tryd.func109, Tryd.ntmps109
  go_wp2_with (go_at_call 74; (with_reducible refine (abs_any' _ _ HB.out HS.out).mono ?_); rintro e w9 ⟨rfl, hw9⟩; have hw9x := hw9.symm; clear hw9; subst hw9x)
  go_ret2
  exact ⟨rfl, rfl⟩

theorem isInf_no (b : Nat) (w : World) (hb : b < 2 ^ 64) (h : ru FloatKind.f64.format b < FloatKind.f64.format.infRung) :
    Calls Tryd.prog 56 #[.float .f64 b, .int .i64 0] w fun e w' => e = .returned (.bool false) ∧ w' = w :=
  (isInf_any b w hb).mono fun e w' ⟨he, hw⟩ => ⟨by rw [he, decide_eq_false (by omega)], hw⟩
theorem isNaN_no (b : Nat) (w : World) (h : ru FloatKind.f64.format b < FloatKind.f64.format.infRung) :
    Calls Tryd.prog 99 #[.float .f64 b] w fun e w' => e = .returned (.bool false) ∧ w' = w :=
  (isNaN_any b w).mono fun e w' ⟨he, hw⟩ => ⟨by rw [he, decide_eq_false (by omega)], hw⟩



theorem and_mask (b : Nat) (hb : b < 9223372036854775808) : b &&& (18446744073709551615 - 9218868437227405312) = b % 4503599627370496 := by
  have e : (18446744073709551615 - 9218868437227405312 : Nat) = 2 ^ 63 ||| (2 ^ 52 - 1) := by decide
  rw [e, Nat.and_or_distrib_left, nat_bit, Nat.div_eq_of_lt (by omega), Nat.and_two_pow_sub_one_eq_mod]
  simp
theorem or_join (f g : Nat) (hf : f < 4503599627370496) : f ||| (g * 4503599627370496) = g * 4503599627370496 + f := by
  rw [Nat.or_comm]
  exact nat_join 52 _ _ (by rw [show (2 : Nat) ^ 52 = 4503599627370496 by decide]; exact Nat.mul_mod_left _ _) hf
/-- What Ldexp lays together. -/
theorem ldexp_word (b E : Nat) (e : Int) (hb : b < 9223372036854775808) (hE : E = b / 4503599627370496) (h1 : 0 ≤ e + (E : Int)) (h2 : e + (E : Int) < 2047) :
    (bits BinOp.or IntKind.u64 (bits BinOp.andNot IntKind.u64 (b : Int) 9218868437227405312) ((e + ((E : Int) - 1023) + 1023) * 4503599627370496)).toNat = ((b : Int) + e * 4503599627370496).toNat := by
  have hf := Nat.mod_lt b (show 0 < 4503599627370496 by decide)
  have hd := Nat.div_add_mod b 4503599627370496
  rw [show (9218868437227405312 : Int) = ((9218868437227405312 : Nat) : Int) from rfl, u64_andNot_nat _ _ (by omega) (by decide), and_mask b hb,
    show (e + ((E : Int) - 1023) + 1023) * 4503599627370496 = (((e + (E : Int)).toNat * 4503599627370496 : Nat) : Int) by omega, u64_or_nat _ _ (by omega) (by omega), or_join _ _ hf]
  rw [← hE] at hd
  omega

theorem one_ru : ru FloatKind.f64.format 4607182418800017408 = 4607182418800017408 ∧ sg FloatKind.f64.format 4607182418800017408 = false := by decide
theorem one_val : rval FloatKind.f64.format 4607182418800017408 = 1 := by
  have h := one_ru
  have hr : FloatKind.f64.format.read 4607182418800017408 = .number false 4503599627370496 (-52) := by decide
  obtain ⟨m, p, e, v⟩ := read_fin FloatKind.f64.format (b := 4607182418800017408) (by rw [h.1, i64]; decide)
  rw [hr] at e
  injection e with _ e1 e2
  subst e1; subst e2
  rw [h.1] at v
  rw [← v, show (4503599627370496 : Nat) = 1 * 2 ^ 52 by decide, vOf_shift]
  unfold vOf
  rw [show (-52 : Int) + ((52 : Nat) : Int) = 0 by omega, pw_zero]
  simp
theorem cw_out {k : FloatKind} {r v : Nat} (h : cw k r = some v) : r = v := by
  rcases cw_cases k r with ⟨h3, _⟩ | ⟨h3, _⟩
  · rw [h3] at h; cases h
  · rw [h3] at h; injection h
/-- '1 * a'. -/
theorem Is.oneMul {b r m : Nat} {p : Int} (h : Is b m p) (h1 : m < 2 ^ 53) (h2 : -1074 ≤ p) (h3 : p ≤ 900) (hr : _root_.Go.Proofs.YtjgjgjkffoagoaaDoor.cw .f64 r = arithR .mul .f64 (_root_.Go.Proofs.YtjgjgjkffoagoaaDoor.cw .f64 4607182418800017408) (_root_.Go.Proofs.YtjgjgjkffoagoaaDoor.cw .f64 b)) : Is r m p := by
  rw [floatBits_cw] at hr
  obtain ⟨n, q, e, v⟩ := mul_fin .f64 (x := 4607182418800017408) (by rw [one_ru.1, i64]; decide) h.2.2.1
  rw [one_ru.1, one_val, h.2.2.2] at v
  rw [e, one_ru.2, h.2.1] at hr
  rw [cw_out hr]
  exact Is.write (by rw [v]; grind) h1 h2 h3

set_option maxHeartbeats 1000000 in
theorem ldexp_any (b m : Nat) (e : Int) (w : World) (h : Is b m 0) (h0 : 0 < m) (hm : m < 2 ^ 24) (h1 : -149 ≤ e) (h2 : e ≤ 127) :
    Calls Tryd.prog 94 #[.float .f64 b, .int .i64 e] w fun en w' => ∃ r, en = .returned (.float .f64 r) ∧ Is r m e ∧ ∃ n, w' = w.drewN n := by
  obtain ⟨n1, n2⟩ := h.normal h0 hm
  have hz : (FloatKind.f64.format.order b 0 == some .eq) = false := by rw [h.eq0]; simp; omega
  have hbr : ru FloatKind.f64.format b = b := by
    have h4 := word_sg_ru FloatKind.f64.format (b := b) h.1
    rw [h.2.1] at h4; exact h4
  have hbl : b < 9223372036854775808 := by have := ru_lt FloatKind.f64.format b; rw [hbr, s64] at this; exact this
  obtain ⟨E, hE⟩ : ∃ E : Nat, E = b / 4503599627370496 := ⟨_, rfl⟩
  have hE1 : 1023 ≤ E := by omega
  have hE2 : E ≤ 1046 := by omega
  have hq : bits BinOp.and IntKind.i64 (wrap64 ((b : Int) / 4503599627370496)) 2047 = (E : Int) := by
    have e1 : wrap64 ((b : Int) / 4503599627370496) = (E : Int) := by unfold wrap64; omega
    rw [e1, show (2047 : Int) = ((2047 : Nat) : Int) from rfl]
    show IntKind.i64.wrap ((BitVec.ofInt 64 (E : Int) &&& BitVec.ofInt 64 ((2047 : Nat) : Int)).toNat : Int) = _
    rw [BitVec.toNat_and, BitVec.ofInt_natCast, BitVec.ofInt_natCast, BitVec.toNat_ofNat, BitVec.toNat_ofNat, Nat.mod_eq_of_lt (show E < 2 ^ 64 by omega), Nat.mod_eq_of_lt (show 2047 < 2 ^ 64 by decide), IntKind.wrap_i64, Nat.and_two_pow_sub_one_eq_mod E 11]
    omega
  have HX : Hid (Is ((b : Int) + e * 4503599627370496).toNat m e) := Lib.hid (by
    have hexp : expo FloatKind.f64.format (ru FloatKind.f64.format b) = E - 1 := by unfold expo; rw [hbr, b64, ← hE]
    have h5 := rung_ldexp (r := ru FloatKind.f64.format b) (e := e) (by rw [b64]; omega) (by rw [hexp]; omega)
    rw [hbr, b64] at h5
    have h6 : ((b : Int) + e * (4503599627370496 : Nat)).toNat = ((b : Int) + e * 4503599627370496).toNat := rfl
    rw [h6] at h5
    have hx : ((b : Int) + e * 4503599627370496).toNat < 9218868437227405312 := by omega
    have hx2 : ru FloatKind.f64.format ((b : Int) + e * 4503599627370496).toNat = ((b : Int) + e * 4503599627370496).toNat := by
      unfold ru; rw [s64]; exact Nat.mod_eq_of_lt (by omega)
    refine ⟨by omega, ?_, by rw [hx2, i64]; exact hx, ?_⟩
    · unfold sg; rw [s64, Nat.div_eq_of_lt (by omega)]; rfl
    · rw [hx2, h5]
      have h7 := h.2.2.2
      rw [hbr] at h7
      rw [h7]; unfold vOf; rw [pw_zero]; grind)
  have HW := Lib.hid (ldexp_word b E e hbl hE (by omega) (by omega))
  have HN := Lib.hid (show 4503599627370496 ≤ ru FloatKind.f64.format b by omega)
  have HL := Lib.hid h.1
  have HS := Lib.hid h.2.1
  have HF := Lib.hid h.2.2.1
  have HM := Lib.hid (show m < 2 ^ 53 by omega)
  have hE1' : 1023 ≤ (E : Int) := by omega
  have hE2' : (E : Int) ≤ 1046 := by omega
  clear n1 n2 h hbr hbl hE hE1 hE2 hm
  have q1 := run_f64bits
  have q2 := fun c => run_f64from c
  go_enter Tryd.func94, Tryd.ntmps94
  go_wp2_with (first | (go_at_call 56; (with_reducible refine (isInf_no _ _ HL.out HF.out).mono ?_); rintro e w9 ⟨rfl, hw9⟩; have hw9x := hw9.symm; clear hw9; subst hw9x) | (go_at_call 99; (with_reducible refine (isNaN_no _ _ HF.out).mono ?_); rintro e w9 ⟨rfl, hw9⟩; have hw9x := hw9.symm; clear hw9; subst hw9x) | (go_at_call 109; (with_reducible refine (normalize_any _ _ HL.out HS.out HN.out HF.out).mono ?_); rintro e w9 ⟨rfl, hw9⟩; have hw9x := hw9.symm; clear hw9; subst hw9x) | (refine wpl_farith 62 rfl rfl rfl rfl rfl rfl ?_; intro r1 n1 hr1))
  go_ret
  refine ⟨_, rfl, ?_, _, rfl⟩
  have hr := hr1.out.1
  rw [HW.out] at hr
  exact HX.out.oneMul HM.out (by omega) (by omega) hr
end Go.Proofs.YtjgjgjkffoagoaaDoor
