/- The program's SplitSingle and FormatSingle at finite singles that are not below 0. Condition of the text: the table of powers of ten is laid. -/
import Derived.Test.YtjgjgjkffoagoaaDoorSing
namespace Go.Proofs.YtjgjgjkffoagoaaDoor
open Go.RowKit
open Go.Lib (itoa decDigits nDigits nDigits_le20 itoa_length_le)
set_option maxRecDepth 100000
set_option maxHeartbeats 4000000
set_option linter.unusedVariables false
set_option linter.unusedSimpArgs false

/-- What frexp ends with. -/
def FxEnd (m : Nat) (p : Int) (w : World) (en : Ending) (w' : World) : Prop := ∃ (x M : Nat) (E : Int), en = .returned (.tuple #[.float .f64 x, .int .i64 (E - 1022)]) ∧ Is x M (-24) ∧ 0 < M ∧ M < 2 ^ 24 ∧ 1 ≤ E ∧ E ≤ 2046 ∧ 4602678819172646912 ≤ x ∧ x < 4607182418800017408 ∧ vOf M (E - 1046) = vOf m p ∧ w' = w
theorem frexp_any (b m : Nat) (p : Int) (w : World) (h : Is b m p) (h0 : 0 < m) (hm : m < 2 ^ 24) (hp : -149 ≤ p) :
    Calls Tryd.prog 92 #[.float .f64 b] w (FxEnd m p w) := by
  obtain ⟨E, F, M, hb, hF, hE1, hE2, hM0, hM1, hx, hv⟩ := frexp_parts h h0 hm hp
  have hz := normal_ne0 h h0
  have HL := Lib.hid h.1
  have HS := Lib.hid h.2.1
  have HF := Lib.hid h.2.2.1
  have HN := Lib.hid (show 4503599627370496 ≤ ru FloatKind.f64.format b by rw [b64_bits h.1 h.2.1]; omega)
  have HW := Lib.hid (frexp_word E F hE2 hF)
  have HX := Lib.hid hx
  have HV := Lib.hid hv
  have hq : bits BinOp.and IntKind.u64 ((b : Int) / 4503599627370496) 2047 = (E : Int) := by
    rw [show (b : Int) / 4503599627370496 = (E : Int) by omega]
    exact exp_bits E hE2
  have HBE := Lib.hid hb
  have hE1' : (1 : Int) ≤ (E : Int) := by omega
  have hE2' : (E : Int) ≤ 2046 := by omega
  have hbl : (b : Int) < 9223372036854775808 := by omega
  clear h hx hv hb
  have q1 := run_f64bits
  have q2 := fun c => run_f64from c
  go_enter Tryd.func92, Tryd.ntmps92
  go_wp2_with (first | (go_at_call 56; (with_reducible refine (isInf_no _ _ HL.out HF.out).mono ?_); rintro e w9 ⟨rfl, hw9⟩; have hw9x := hw9.symm; clear hw9; subst hw9x) | (go_at_call 99; (with_reducible refine (isNaN_no _ _ HF.out).mono ?_); rintro e w9 ⟨rfl, hw9⟩; have hw9x := hw9.symm; clear hw9; subst hw9x) | (go_at_call 109; (with_reducible refine (normalize_any _ _ HL.out HS.out HN.out HF.out).mono ?_); rintro e w9 ⟨rfl, hw9⟩; have hw9x := hw9.symm; clear hw9; subst hw9x))
  have hw := HW.out
  rw [← HBE.out] at hw
  have HE : FxEnd m p w (.returned (.tuple #[.float .f64 (bits BinOp.or IntKind.u64 (bits BinOp.andNot IntKind.u64 (b : Int) 9218868437227405312) 4602678819172646912).toNat, .int .i64 ((E : Int) - 1023 + 1)])) w :=
    ⟨_, M, E, by rw [show (E : Int) - 1023 + 1 = E - 1022 by omega], by rw [hw]; exact HX.out, hM0, hM1, hE1', hE2', by rw [hw]; omega, by rw [hw]; omega, HV.out, rfl⟩
  exact bodyPost_ret (v := .tuple #[.float .f64 (bits BinOp.or IntKind.u64 (bits BinOp.andNot IntKind.u64 (b : Int) 9218868437227405312) 4602678819172646912).toNat, .int .i64 ((E : Int) - 1023 + 1)]) (by simp (maxDischargeDepth := 6) [results, Tryd.results92, go_sem]) rfl HE
theorem Frexp_any (b m : Nat) (p : Int) (w : World) (h : Is b m p) (h0 : 0 < m) (hm : m < 2 ^ 24) (hp : -149 ≤ p) :
    Calls Tryd.prog 77 #[.float .f64 b] w (FxEnd m p w) := by
  have H := Lib.hid h
  clear h
  go_enter Tryd.func77, Tryd.ntmps77
  go_wp2_with (go_at_call 92; (with_reducible refine (frexp_any b m p _ H.out h0 hm hp).mono ?_); rintro en w1 ⟨x, M, E, rfl, hx, a0, a1, a2, a3, a4, a5, hv, hw⟩; have hw := hw.symm; subst hw; have HX := Lib.hid hx; have HV := Lib.hid hv; clear hx hv)
  have HE : FxEnd m p w (.returned (.tuple #[.float .f64 x, .int .i64 (E - 1022)])) w := ⟨x, M, E, rfl, HX.out, a0, a1, a2, a3, a4, a5, HV.out, rfl⟩
  exact bodyPost_ret (v := .tuple #[.float .f64 x, .int .i64 (E - 1022)]) (by simp (maxDischargeDepth := 6) [results, Tryd.results77, go_sem]) rfl HE

/-- An ending with a double of just this number. -/
def LgEnd (m : Nat) (e : Int) (w : World) (en : Ending) (w' : World) : Prop := ∃ r, en = .returned (.float .f64 r) ∧ Is r m e ∧ ∃ n, w' = w.drewN n
theorem ldexp_gen (b m E : Nat) (p e : Int) (w : World) (h : Is b m p) (h0 : 0 < m) (hm : m < 2 ^ 53) (hE : E = b / 4503599627370496) (hE1 : 1000 ≤ E) (hE2 : E ≤ 1046) (h1 : -149 ≤ e) (h2 : e ≤ 127) (hq1 : -1074 ≤ p + e) (hq2 : p + e ≤ 900) :
    Calls Tryd.prog 94 #[.float .f64 b, .int .i64 e] w (LgEnd m (p + e) w) := by
  have hz : (FloatKind.f64.format.order b 0 == some .eq) = false := by rw [h.eq0]; simp; omega
  have hbr : ru FloatKind.f64.format b = b := b64_bits h.1 h.2.1
  have hbl : b < 9223372036854775808 := by have := ru_lt FloatKind.f64.format b; rw [hbr, s64] at this; exact this
  have hq : bits BinOp.and IntKind.i64 (wrap64 ((b : Int) / 4503599627370496)) 2047 = (E : Int) := by
    have e1 : wrap64 ((b : Int) / 4503599627370496) = (E : Int) := by unfold wrap64; omega
    rw [e1, show (2047 : Int) = ((2047 : Nat) : Int) from rfl]
    show IntKind.i64.wrap ((BitVec.ofInt 64 (E : Int) &&& BitVec.ofInt 64 ((2047 : Nat) : Int)).toNat : Int) = _
    rw [BitVec.toNat_and, BitVec.ofInt_natCast, BitVec.ofInt_natCast, BitVec.toNat_ofNat, BitVec.toNat_ofNat, Nat.mod_eq_of_lt (show E < 2 ^ 64 by omega), Nat.mod_eq_of_lt (show 2047 < 2 ^ 64 by decide), IntKind.wrap_i64, Nat.and_two_pow_sub_one_eq_mod E 11]
    omega
  have HX : Hid (Is ((b : Int) + e * 4503599627370496).toNat m (p + e)) := Lib.hid (by
    have hexp : expo FloatKind.f64.format (ru FloatKind.f64.format b) = E - 1 := by unfold expo; rw [hbr, b64, ← hE]
    have h5 := rung_ldexp (r := ru FloatKind.f64.format b) (e := e) (by rw [b64]; omega) (by rw [hexp]; omega)
    rw [hbr, b64] at h5
    have h6 : ((b : Int) + e * (4503599627370496 : Nat)).toNat = ((b : Int) + e * 4503599627370496).toNat := rfl
    rw [h6] at h5
    have hx : ((b : Int) + e * 4503599627370496).toNat < 9218868437227405312 := by omega
    have hx2 : ru FloatKind.f64.format ((b : Int) + e * 4503599627370496).toNat = ((b : Int) + e * 4503599627370496).toNat := by
      unfold ru; rw [s64]; exact Nat.mod_eq_of_lt (by omega)
    refine ⟨by omega, ?_, by rw [hx2, i64]; exact hx, ?_⟩
    · unfold sg; rw [s64, Nat.div_eq_of_lt (by omega)]; rfl
    · rw [hx2, h5]
      have h7 := h.2.2.2
      rw [hbr] at h7
      rw [h7]; unfold vOf; rw [pw_add]; grind)
  have HW := Lib.hid (ldexp_word b E e hbl hE (by omega) (by omega))
  have HN := Lib.hid (show 4503599627370496 ≤ ru FloatKind.f64.format b by omega)
  have HL := Lib.hid h.1
  have HS := Lib.hid h.2.1
  have HF := Lib.hid h.2.2.1
  have HM := Lib.hid hm
  have hE1' : 1000 ≤ (E : Int) := by omega
  have hE2' : (E : Int) ≤ 1046 := by omega
  clear h hbr hbl hE hE1 hE2 hm
  have q1 := run_f64bits
  have q2 := fun c => run_f64from c
  go_enter Tryd.func94, Tryd.ntmps94
  go_wp2_with (first | (go_at_call 56; (with_reducible refine (isInf_no _ _ HL.out HF.out).mono ?_); rintro e w9 ⟨rfl, hw9⟩; have hw9x := hw9.symm; clear hw9; subst hw9x) | (go_at_call 99; (with_reducible refine (isNaN_no _ _ HF.out).mono ?_); rintro e w9 ⟨rfl, hw9⟩; have hw9x := hw9.symm; clear hw9; subst hw9x) | (go_at_call 109; (with_reducible refine (normalize_any _ _ HL.out HS.out HN.out HF.out).mono ?_); rintro e w9 ⟨rfl, hw9⟩; have hw9x := hw9.symm; clear hw9; subst hw9x) | (refine wpl_farith 62 rfl rfl rfl rfl rfl rfl ?_; intro r1 n1 hr1))
  go_ret
  refine ⟨_, rfl, ?_, _, rfl⟩
  have hr := hr1.out.1
  rw [HW.out] at hr
  exact HX.out.oneMul HM.out hq1 hq2 hr
theorem Ldexp24 (x M : Nat) (w : World) (h : Is x M (-24)) (h0 : 0 < M) (hM : M < 2 ^ 24) (h1 : 4602678819172646912 ≤ x) (h2 : x < 4607182418800017408) :
    Calls Tryd.prog 78 #[.float .f64 x, .int .i64 24] w (LgEnd M 0 w) := by
  have H := Lib.hid h
  have HE := Lib.hid (show 1022 = x / 4503599627370496 by omega)
  clear h h1 h2
  go_enter Tryd.func78, Tryd.ntmps78
  go_wp2_with (go_at_call 94; (with_reducible refine (ldexp_gen x M 1022 (-24) 24 _ H.out h0 (by omega) HE.out (by decide) (by decide) (by decide) (by decide) (by decide) (by decide)).mono ?_); rintro en w' ⟨r, rfl, hr, n, rfl⟩; have HR := Lib.hid hr; clear hr)
  go_ret
  exact ⟨r, rfl, HR.out, n, rfl⟩
end Go.Proofs.YtjgjgjkffoagoaaDoor
