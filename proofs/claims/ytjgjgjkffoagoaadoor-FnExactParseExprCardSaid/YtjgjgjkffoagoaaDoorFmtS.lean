/- The program's SplitSingle and FormatSingle at finite singles that are not below 0. Condition of the text: the table of powers of ten is laid. -/
import Derived.Test.YtjgjgjkffoagoaaDoorSplit
namespace Go.Proofs.YtjgjgjkffoagoaaDoor
open Go.RowKit
open Go.Lib (itoa decDigits nDigits nDigits_le20 itoa_length_le)
set_option maxRecDepth 100000
set_option maxHeartbeats 4000000
set_option linter.unusedVariables false
set_option linter.unusedSimpArgs false

/-- The place of an amount, from its value. -/
theorem place_bounds {m n : Nat} {p q : Int} (h : vOf n q = vOf m p) (hn : 0 < n) (hn2 : n < 2 ^ 24) (hm : 0 < m) (hm2 : m < 2 ^ 24) (hp : -149 ≤ p) (hp2 : p ≤ 104) : -173 ≤ q ∧ q ≤ 127 := by
  have h1 := pw_le_vOf q hn
  have h2 := pw_128 hm2 hp2
  have h3 : pw q < pw 128 := by rw [h] at h1; grind
  have h4 := pw_lt_iff.1 h3
  have h5 := vOf_lt_pw (p := q) hn2
  have h6 := pw_le_vOf p hm
  have h7 : pw p < pw (((24 : Nat) : Int) + q) := by rw [h] at h5; grind
  have h8 := pw_lt_iff.1 h7
  omega
theorem odd_place {m n : Nat} {p q : Int} (h : vOf n q = vOf m p) (hn : n % 2 = 1) : p ≤ q := by
  rcases Int.lt_or_le q p with hlt | hle
  · have h2 := vOf_two h (by omega)
    obtain ⟨k, hk⟩ : ∃ k, (p - q).toNat = k + 1 := ⟨(p - q).toNat - 1, by omega⟩
    rw [hk, Nat.pow_succ, ← Nat.mul_assoc] at h2
    omega
  · exact hle
/-- What SplitSingle tells of a finite single above 0. -/
def SpR (y : Nat) (m : Nat) (e : Int) : Prop := m % 2 = 1 ∧ m < 2 ^ 24 ∧ -149 ≤ e ∧ e ≤ 127 ∧ val .f32 y = vOf m e
theorem SpR.uniq {y m n : Nat} {e f : Int} (h : SpR y m e) (h' : SpR y n f) : m = n ∧ e = f := odd_uniq h.1 h'.1 (h.2.2.2.2.symm.trans h'.2.2.2.2)
def SpEnd (y : Nat) (w : World) (en : Ending) (w' : World) : Prop := ∃ (m : Nat) (e : Int), en = .returned (.tuple #[.int .i64 (m : Int), .int .i64 e, .bool true]) ∧ SpR y m e ∧ ∃ n, w' = w.drewN n
/-- The loop's relation. -/
def SpRel (y : Nat) (W : World) (e m : Value) (wr : World) : Prop := ∃ (n : Nat) (q : Int), m = .int .i64 (n : Int) ∧ e = .int .i64 q ∧ 0 < n ∧ n < 2 ^ 24 ∧ val .f32 y = vOf n q ∧ wr = W
theorem sp_next {y n : Nat} {q : Int} {W : World} (h0 : 0 < n) (h1 : n < 2 ^ 24) (hv : val .f32 y = vOf n q) (he : n % 2 = 0) :
    SpRel y W (.int .i64 (q + 1)) (.int .i64 ((n : Int).tdiv 2)) W ∧ (RowKit.intOf (.int .i64 ((n : Int).tdiv 2))).toNat < (RowKit.intOf (.int .i64 (n : Int))).toNat := by
  have e : (n : Int).tdiv 2 = ((n / 2 : Nat) : Int) := by rw [Int.tdiv_eq_ediv_of_nonneg (by omega)]; omega
  have h2 := vOf_shift (n / 2) 1 q
  rw [show n / 2 * 2 ^ 1 = n by omega] at h2
  refine ⟨⟨n / 2, q + 1, by rw [e], rfl, by omega, by omega, hv.trans h2, rfl⟩, ?_⟩
  rw [e]; simp only [RowKit.intOf]; omega
theorem widen_GS {y r : Nat} (h : GS y) (h0 : y ≠ 0) (hr : cw .f64 r = widen (cw .f32 y)) (hl : r < 2 ^ 64) : ∃ (m : Nat) (p : Int), 0 < m ∧ m < 2 ^ 24 ∧ -149 ≤ p ∧ p ≤ 104 ∧ val .f32 y = vOf m p ∧ Is r m p := by
  obtain ⟨m, p, a, b, c, d, e⟩ := h.parts h0
  refine ⟨m, p, a, b, c, d, e, ?_⟩
  rcases widen_cases hr with ⟨h1, _⟩ | ⟨h1, _⟩ | ⟨_, h2, h3, h4⟩
  · have := h.2.1; omega
  · have := h.2.1; omega
  · rw [h.2.2] at h3
    refine ⟨hl, h3, h2, ?_⟩
    rw [e] at h4
    rw [← h4]
    unfold val
    rw [h3]; rfl
theorem GS.eq0 {y : Nat} (h : GS y) : (FloatKind.f32.format.order y 0 == some .eq) = decide (y = 0) := by
  rw [ord_eq .f32 (Nat.le_of_lt h.2.1) (by decide), key_pos .f32 h.2.2, key_zero .f32 (ru_zero .f32), h.ru]
  congr 1
  apply propext
  omega
theorem GS.self {y : Nat} (h : GS y) : (FloatKind.f32.format.order y y != some .eq) = false := by rw [order_self (Nat.le_of_lt h.2.1)]; rfl
theorem splitI_any (y : Nat) (w : World) (h : GS y) (h0 : y ≠ 0) : Calls Tryd.prog 58 #[.float .f32 y] w (SpEnd y w) := by
  have hz : (FloatKind.f32.format.order y 0 == some .eq) = false := by rw [h.eq0, decide_eq_false h0]
  have HY := Lib.hid h
  have hfb : finB .f32 y = true := decide_eq_true h.2.1
  have HFB := Lib.hid hfb
  clear h hfb
  go_enter Tryd.func58, Tryd.ntmps58
  go_wp2_with (first | (go_at_call 76; (with_reducible refine (finiteSingle_is _ _ _ HFB.out).mono ?_); rintro e w9 ⟨rfl, m9, rfl⟩) | (refine wpl_widen 15 Tryd.underlying73 Tryd.underlying65 rfl rfl rfl rfl ?_; intro r1 n1 hr1; obtain ⟨m, p, a1, a2, a3, a4, hval, his⟩ := widen_GS HY.out h0 hr1.out.1 hr1.out.2; have HV := Lib.hid hval; have HI := Lib.hid his; have HL := Lib.hid his.1; have HS := Lib.hid his.2.1; clear hr1 hval his) | (go_at_call 74; (with_reducible refine (abs_any' _ _ HL.out HS.out).mono ?_); rintro e w9 ⟨rfl, hw9⟩; have hw9x := hw9.symm; clear hw9; subst hw9x) | (go_at_call 77; (with_reducible refine (Frexp_any _ m p _ HI.out a1 a2 a3).mono ?_); rintro en w1 ⟨x, M, E, rfl, hx, c0, c1, c2, c3, c4, c5, hv, hw⟩; have hw := hw.symm; subst hw; have HX := Lib.hid hx; have HW := Lib.hid (HV.out.trans hv.symm); clear hx hv) | (go_at_call 78; (with_reducible refine (Ldexp24 _ M _ HX.out c0 c1 c4 c5).mono ?_); rintro en w2 ⟨r2, rfl, hr2, n2, hw⟩; subst hw; have HR := Lib.hid hr2; clear hr2) | (refine wpl_toInt 22 Tryd.underlying65 Tryd.underlying3 rfl rfl rfl rfl (toInt_is HR.out (by omega)) ?_))
  go_loopw [6, 7] (fun e m wr => SpRel y (w.drewN (m9 + n1 + n2)) e m wr) (fun _ m _ => (RowKit.intOf m).toNat)
  case atStart => exact ⟨M, E - 1022 - 24, rfl, rfl, c0, c1, by rw [HW.out]; congr 1; omega, rfl⟩
  case round =>
    obtain ⟨n, q, rfl, rfl, hn0, hn1, hv, hwr⟩ := hrel
    have hwr := hwr.symm
    subst hwr
    have HVN := Lib.hid hv
    obtain ⟨hq1, hq2⟩ := place_bounds (HVN.out.symm.trans HV.out) hn0 hn1 a1 a2 a3 a4
    have hmod : Int.tmod (n : Int) 2 = ((n % 2 : Nat) : Int) := by rw [Int.tmod_eq_emod_of_nonneg (by omega)]; omega
    clear hv
    by_cases he : n % 2 = 0
    · have hc : decide (Int.tmod (n : Int) 2 = 0) = true := decide_eq_true (by rw [hmod, he]; rfl)
      rw [he] at hmod
      have HN := Lib.hid (sp_next (W := w.drewN (m9 + n1 + n2)) hn0 hn1 HVN.out he)
      clear he
      go_wp2
      case roundEnd => exact HN.out
    · have he1 : n % 2 = 1 := by omega
      rw [he1] at hmod
      have HE : SpEnd y w (.returned (.tuple #[.int .i64 (n : Int), .int .i64 q, .bool true])) (w.drewN (m9 + n1 + n2)) := ⟨n, q, rfl, ⟨he1, hn1, Int.le_trans a3 (odd_place (HVN.out.symm.trans HV.out) he1), hq2, HVN.out⟩, _, rfl⟩
      clear he he1
      go_wp2
      exact bodyPost_ret (v := .tuple #[.int .i64 (n : Int), .int .i64 q, .bool true]) (by simp (maxDischargeDepth := 6) [results, Tryd.results58, go_sem]) rfl HE
/-- The word of a single that is not below 0 has no sign. -/
theorem sgn_wide {y r : Nat} (h : GS y) (hr : cw .f64 r = widen (cw .f32 y)) (hl : r < 2 ^ 64) : decide (wrap64 (r : Int) < 0) = false := by
  have h3 : sg FloatKind.f64.format r = false := by
    rcases widen_cases hr with ⟨h1, _⟩ | ⟨h1, _⟩ | ⟨_, _, h3, _⟩
    · have := h.2.1; omega
    · have := h.2.1; omega
    · rw [h3]; exact h.2.2
  have h4 := b64_bits hl h3
  have h5 := ru_lt FloatKind.f64.format r
  rw [h4, s64] at h5
  exact decide_eq_false (by unfold wrap64; omega)
theorem signbit_is (b : Nat) (q : Bool) (w : World) (h : decide (wrap64 (b : Int) < 0) = q) : Calls Tryd.prog 75 #[.float .f64 b] w fun e w' => e = .returned (.bool q) ∧ w' = w := h ▸ signbit_any b w
theorem signText_GS (y : Nat) (w : World) (h : GS y) : Calls Tryd.prog 57 #[.float .f32 y] w fun en w' => en = .returned (tx [43]) ∧ ∃ n, w' = w.drewN n := by
  have hs := h.self
  have HY := Lib.hid h
  clear h
  go_enter Tryd.func57, Tryd.ntmps57
  go_wp2_with (first | (refine wpl_widen 9 Tryd.underlying73 Tryd.underlying65 rfl rfl rfl rfl ?_; intro r1 n1 hr1; have HSB := Lib.hid (sgn_wide HY.out hr1.out.1 hr1.out.2)) | (go_at_call 75; (with_reducible refine (signbit_is _ false _ HSB.out).mono ?_); rintro en w1 ⟨rfl, hw⟩; have hw := hw.symm; subst hw))
  go_ret
  exact ⟨rfl, _, rfl⟩

/-- The text of a finite single that is not below 0, without its sign. -/
def TxR (y : Nat) (l : List UInt8) : Prop := (y = 0 ∧ l = [48]) ∨ ∃ (m : Nat) (e : Int), y ≠ 0 ∧ SpR y m e ∧ l = itoa (m : Int) ++ 112 :: itoa e
theorem TxR.uniq {y : Nat} {l l' : List UInt8} (h : TxR y l) (h' : TxR y l') : l = l' := by
  rcases h with ⟨h1, h2⟩ | ⟨m, e, h1, h2, h3⟩ <;> rcases h' with ⟨g1, g2⟩ | ⟨n, f, g1, g2, g3⟩
  · rw [h2, g2]
  · exact absurd h1 g1
  · exact absurd g1 h1
  · obtain ⟨rfl, rfl⟩ := h2.uniq g2
    rw [h3, g3]
def FsEnd (y : Nat) (w : World) (en : Ending) (w' : World) : Prop := ∃ l, en = .returned (tx (43 :: l)) ∧ TxR y l ∧ l.length ≤ 50 ∧ Below w.heap.size w w'
theorem tab_on {w w' : World} (h : Lib.TabIs Tryd.prog w "internal/strconv.uint64pow10" .u64 Lib.pow10Tab) (hb : Below w.heap.size w w') : Lib.TabIs Tryd.prog w' "internal/strconv.uint64pow10" .u64 Lib.pow10Tab :=
  Joins.tab_stays (g := 2) (by kernel_rfl) h hb (Nat.le_refl _)
theorem dec_pos (u : Nat) : 1 ≤ (decDigits u).length := by rw [Lib.decDigits_length]; exact Lib.nDigits_pos _
theorem fin_wide {y r : Nat} (h : GS y) (hr : cw .f64 r = widen (cw .f32 y)) : ru FloatKind.f64.format r < FloatKind.f64.format.infRung := by
  rcases widen_cases hr with ⟨h1, _⟩ | ⟨h1, _⟩ | ⟨_, h3, _, _⟩
  · have := h.2.1; omega
  · have := h.2.1; omega
  · exact h3
theorem fmtSingle_any (y : Nat) (w : World) (h : GS y) (htab : Lib.TabIs Tryd.prog w "internal/strconv.uint64pow10" .u64 Lib.pow10Tab) : Calls Tryd.prog 37 #[.float .f32 y] w (FsEnd y w) := by
  have hs := h.self
  have he0 := h.eq0
  have HY := Lib.hid h
  clear h
  by_cases h0 : y = 0
  · rw [decide_eq_true h0] at he0
    have H0 := Lib.hid h0
    clear h0
    go_enter Tryd.func37, Tryd.ntmps37
    go_wp2_with (first | (refine wpl_widen 12 Tryd.underlying73 Tryd.underlying65 rfl rfl rfl rfl ?_; intro r1 n1 hr1; have HL := Lib.hid hr1.out.2; have HF := Lib.hid (fin_wide HY.out hr1.out.1)) | (go_at_call 56; (with_reducible refine (isInf_no _ _ HL.out HF.out).mono ?_); rintro e w9 ⟨rfl, hw9⟩; have hw9x := hw9.symm; clear hw9; subst hw9x) | (go_at_call 57; (with_reducible refine (signText_GS y _ HY.out).mono ?_); rintro en w1 ⟨rfl, n2, hw⟩; subst hw))
    go_ret
    exact ⟨[48], rfl, .inl ⟨H0.out, rfl⟩, by decide, bl_drewN (Below.refl _ _) _⟩
  · rw [decide_eq_false h0] at he0
    have HT := Lib.hid htab
    clear htab
    go_enter Tryd.func37, Tryd.ntmps37
    go_wp2_with (first | (refine wpl_widen 12 Tryd.underlying73 Tryd.underlying65 rfl rfl rfl rfl ?_; intro r1 n1 hr1; have HL := Lib.hid hr1.out.2; have HF := Lib.hid (fin_wide HY.out hr1.out.1)) | (go_at_call 56; (with_reducible refine (isInf_no _ _ HL.out HF.out).mono ?_); rintro e w9 ⟨rfl, hw9⟩; have hw9x := hw9.symm; clear hw9; subst hw9x) | (go_at_call 57; (with_reducible refine (signText_GS y _ HY.out).mono ?_); rintro en w1 ⟨rfl, n2, hw⟩; subst hw) | (go_at_call 58; (with_reducible refine (splitI_any y _ HY.out h0).mono ?_); rintro en w2 ⟨m, e, rfl, hsp, n3, hw⟩; subst hw; have HSP := Lib.hid hsp; clear hsp))
    have hm24 := HSP.out.2.1
    have hme := HSP.out.2.2.1
    have hme2 := HSP.out.2.2.2.1
    have hl1 := itoa_length_le (m : Int) (by omega) (by omega)
    have hl2 := itoa_length_le e (by omega) (by omega)
    have hs1 : (9223372036854775807 < 1 + (itoa (m : Int)).length) = False := eq_false (by omega)
    have hs2 : (9223372036854775807 < 1 + (itoa (m : Int)).length + 1) = False := eq_false (by omega)
    have hs3 : (9223372036854775807 < 1 + (itoa (m : Int)).length + 1 + (itoa e).length) = False := eq_false (by omega)
    go_at_call 21
    refine (implFormatInt (m : Int) (by omega) (by omega) _ (tab_on HT.out (bl_drewN (Below.refl _ _) _))).mono ?_
    rintro en w4 ⟨rfl, hb4⟩
    have hb4' : Below w.heap.size w w4 := bl_call (bl_drewN (Below.refl _ _) _) hb4
    have HB4 := Lib.hid hb4'
    have HT4 := Lib.hid (tab_on HT.out hb4')
    clear hb4 hb4'
    go_wp2_with (go_at_call 21; (with_reducible refine (implFormatInt e (by omega) (by omega) _ HT4.out).mono ?_); rintro en w5 ⟨rfl, hb5⟩)
    go_ret
    refine ⟨itoa (m : Int) ++ 112 :: itoa e, ?_, .inr ⟨m, e, h0, HSP.out, rfl⟩, by simp; omega, bl_call HB4.out hb5⟩
    show Ending.returned (Value.string ((((⟨[43].toArray⟩ : ByteArray) ++ (⟨(itoa (m : Int)).toArray⟩ : ByteArray)) ++ (⟨[112].toArray⟩ : ByteArray)) ++ (⟨(itoa e).toArray⟩ : ByteArray))) = _
    rw [cat, cat, cat]
    simp
end Go.Proofs.YtjgjgjkffoagoaaDoor
