/- The reference's SplitSingle and FormatSingle at finite singles that are not below 0. No condition. -/
import Derived.Test.YtjgjgjkffoagoaaDoorFmtS
namespace Go.Proofs.YtjgjgjkffoagoaaDoor
open Go.RowKit
open Go.Lib (itoa decDigits nDigits nDigits_le20 itoa_length_le)
set_option maxRecDepth 100000
set_option maxHeartbeats 4000000
set_option linter.unusedVariables false
set_option linter.unusedSimpArgs false

theorem Is.lt {b c m n : Nat} {p q : Int} (h : Is b m p) (h' : Is c n q) : (FloatKind.f64.format.order b c == some .lt) = decide (vOf m p < vOf n q) := by
  rw [ord_lt (k := .f64) (Nat.le_of_lt h.2.2.1) (Nat.le_of_lt h'.2.2.1), key_pos .f64 h.2.1, key_pos .f64 h'.2.1, ← h.2.2.2, ← h'.2.2.2]
  congr 1
  apply propext
  rw [rval_lt_iff]
  show ((ru FloatKind.f64.format b : Nat) : Int) < ((ru FloatKind.f64.format c : Nat) : Int) ↔ _
  omega
theorem Is.ge {b c m n : Nat} {p q : Int} (h : Is b m p) (h' : Is c n q) : (FloatKind.f64.format.order b c == some .gt || FloatKind.f64.format.order b c == some .eq) = !decide (vOf m p < vOf n q) := by
  rw [← h.lt h', order_key (k := .f64) (Nat.le_of_lt h.2.2.1) (Nat.le_of_lt h'.2.2.1)]
  cases compare (key .f64 b) (key .f64 c) <;> rfl
theorem is24 : Is 4715268809856909312 16777216 0 := by
  have h := Is.ofNat (m := 16777216) (by decide)
  rwa [show floatOfInt .f64 ((16777216 : Nat) : Int) = 4715268809856909312 by kernel_rfl] at h
theorem is23 : Is 4710765210229538816 8388608 0 := by
  have h := Is.ofNat (m := 8388608) (by decide)
  rwa [show floatOfInt .f64 ((8388608 : Nat) : Int) = 4710765210229538816 by kernel_rfl] at h
theorem v24 : vOf 16777216 0 = pw 24 := by
  have h := vOf_shift 1 24 0
  rw [show 1 * 2 ^ 24 = 16777216 by decide] at h
  rw [h]
  unfold vOf
  rw [show (0 : Int) + ((24 : Nat) : Int) = 24 by decide]
  simp
theorem v23 : vOf 8388608 0 = pw 23 := by
  have h := vOf_shift 1 23 0
  rw [show 1 * 2 ^ 23 = 8388608 by decide] at h
  rw [h]
  unfold vOf
  rw [show (0 : Int) + ((23 : Nat) : Int) = 23 by decide]
  simp
/-- What is at least 2^24 and has an amount below it stands above place 0. -/
theorem ge24 {m : Nat} {q : Int} (hm : m < 2 ^ 24) (h : ¬ vOf m q < vOf 16777216 0) : 0 < q := by
  rcases Int.lt_or_le 0 q with h1 | h1
  · exact h1
  · exfalso
    apply h
    have h2 := vOf_lt_pw (p := q) hm
    have h3 : pw (((24 : Nat) : Int) + q) ≤ pw 24 := pw_le (by omega)
    rw [v24]
    grind
theorem ge23 {m : Nat} {q : Int} (hm : m < 2 ^ 24) (h : ¬ vOf m q < vOf 8388608 0) : 0 ≤ q := by
  rcases Int.lt_or_le q 0 with h1 | h1
  · exfalso
    apply h
    have h2 := vOf_lt_pw (p := q) hm
    have h3 : pw (((24 : Nat) : Int) + q) ≤ pw 23 := pw_le (by omega)
    rw [v23]
    grind
  · exact h1
theorem dbl24 {m : Nat} {q : Int} (h : vOf m q < vOf 8388608 0) : vOf m (q + 1) < vOf 16777216 0 := by
  have h1 := vOf_succ m q
  have h2 := vOf_succ 8388608 0
  rw [v23, show (0 : Int) + 1 = 1 by decide] at h2
  have h3 : vOf 8388608 1 = vOf 16777216 0 := by
    have h := vOf_shift 8388608 1 0
    rw [show 8388608 * 2 ^ 1 = 16777216 by decide] at h
    rw [h]; rfl
  rw [v23] at h
  grind
/-- The whole number at the end of the two loops. -/
theorem whole24 {y b m : Nat} {p e : Int} (h : Is b m (p - e)) (h0 : 0 < m) (hv : val .f32 y = vOf m p) (hq : 0 ≤ p - e) (hlt : vOf m (p - e) < vOf 16777216 0) : ∃ n : Nat, Is b n 0 ∧ 0 < n ∧ n < 2 ^ 24 ∧ val .f32 y = vOf n e := by
  have h1 := vOf_shift m (p - e).toNat 0
  rw [show (0 : Int) + ((p - e).toNat : Int) = p - e by omega] at h1
  have h2 := vOf_shift m (p - e).toNat e
  rw [show e + ((p - e).toNat : Int) = p by omega] at h2
  refine ⟨m * 2 ^ (p - e).toNat, h.congr h1.symm, Nat.mul_pos h0 (Nat.pow_pos (by decide)), ?_, hv.trans h2.symm⟩
  rw [← h1] at hlt
  rcases Nat.lt_or_ge (m * 2 ^ (p - e).toNat) (2 ^ 24) with h3 | h3
  · exact h3
  · exfalso
    have h4 : vOf 16777216 0 ≤ vOf (m * 2 ^ (p - e).toNat) 0 := by
      unfold vOf
      refine Rat.mul_le_mul_of_nonneg_right ?_ (Rat.le_of_lt (pw_pos _))
      exact_mod_cast h3
    grind
/-- The loops' relations. -/
def UpRel (m : Nat) (p : Int) (w : World) (a e : Value) (wr : World) : Prop := ∃ (b : Nat) (k : Int) (q : Nat), a = .float .f64 b ∧ e = .int .i64 k ∧ 0 ≤ k ∧ k ≤ 104 ∧ Is b m (p - k) ∧ wr = w.drewN q
def DnRel (m : Nat) (p : Int) (w : World) (a e : Value) (wr : World) : Prop := ∃ (b : Nat) (k : Int) (q : Nat), a = .float .f64 b ∧ e = .int .i64 k ∧ -149 ≤ k ∧ k ≤ 104 ∧ Is b m (p - k) ∧ vOf m (p - k) < vOf 16777216 0 ∧ wr = w.drewN q
theorem splitS_any (y : Nat) (w : World) (h : GS y) (h0 : y ≠ 0) : Calls Tryd.prog 128 #[.float .f32 y] w (SpEnd y w) := by
  have HY := Lib.hid h
  clear h
  go_enter Tryd.func128, Tryd.ntmps128
  go_wp2_with (first | (refine wpl_widen 9 Tryd.underlying73 Tryd.underlying65 rfl rfl rfl rfl ?_; intro r1 n1 hr1; obtain ⟨m, p, a1, a2, a3, a4, hval, his⟩ := widen_GS HY.out h0 hr1.out.1 hr1.out.2; have HV := Lib.hid hval; have HI := Lib.hid his; have hfin : finB .f64 r1 = true := decide_eq_true his.2.2.1; have hz : (FloatKind.f64.format.order r1 0 == some .eq) = false := normal_ne0 his a1; have hlt0 : (FloatKind.f64.format.order r1 0 == some .lt) = false := (by rw [his.lt (Is.of_zero p), vOf_zero, decide_eq_false (by have := vOf_pos p a1; grind)]); clear hr1 hval his) | (go_at_call 88; (with_reducible refine (l01Fine_any r1 _).mono ?_); rw [hfin]; rintro en w2 ⟨rfl, n2, hw⟩; subst hw))
  go_loopw [5, 6] (fun a e wr => UpRel m p w a e wr) (fun _ e _ => (105 - RowKit.intOf e).toNat)
  case atStart => exact ⟨r1, 0, _, rfl, rfl, by decide, by decide, by rw [Int.sub_zero]; exact HI.out, by first | rfl | rw [World.drewN_drewN]⟩
  case round =>
    obtain ⟨b, k, q, rfl, rfl, k0, k1, hb, rfl⟩ := hrel
    have HB := Lib.hid hb
    have hge := hb.ge is24
    have HC : Hid (Is b m (p - k)) := Lib.hid hb
    clear hb
    by_cases hlt : vOf m (p - k) < vOf 16777216 0
    · rw [decide_eq_true hlt] at hge
      have HLT := Lib.hid hlt
      clear hlt
      go_wp2
      go_loopw [5, 6] (fun a e wr => DnRel m p w a e wr) (fun _ e _ => (RowKit.intOf e + 149).toNat)
      case atStart => exact ⟨b, k, q, rfl, rfl, by omega, k1, HB.out, HLT.out, rfl⟩
      case round =>
        obtain ⟨b2, k2, q2, rfl, rfl, c0, c1, hb2, hlt2, rfl⟩ := hrel
        have HB2 := Lib.hid hb2
        have HLT2 := Lib.hid hlt2
        have hl23 := hb2.lt is23
        have hst : ∀ (hq : 0 ≤ p - k2), ∃ n : Nat, Is b2 n 0 ∧ 0 < n ∧ n < 2 ^ 24 ∧ val .f32 y = vOf n k2 := fun hq => whole24 HB2.out a1 HV.out hq HLT2.out
        have HST := Lib.hid hst
        clear hb2 hlt2 hst
        by_cases h23 : vOf m (p - k2) < vOf 8388608 0
        · rw [decide_eq_true h23] at hl23
          have H23 := Lib.hid h23
          clear h23
          by_cases he : -149 < k2
          · have d1 : decide ((-149 : Int) < k2) = true := decide_eq_true he
            go_wp2_with (refine wpl_farith 32 rfl rfl rfl rfl rfl rfl ?_; intro r3 n3 hr3)
            go_roundw
            case rel => exact ⟨r3, k2 - 1, _, rfl, rfl, by omega, by omega, by have h9 := HB2.out.dbl (by omega) (by omega) (by omega) hr3.out.1; rwa [show p - (k2 - 1) = p - k2 + 1 by omega], by have h9 := dbl24 H23.out; rwa [show p - (k2 - 1) = p - k2 + 1 by omega], by first | rfl | rw [World.drewN_drewN]⟩
            case measure => simp [RowKit.intOf]; omega
          · have d1 : decide ((-149 : Int) < k2) = false := decide_eq_false he
            obtain ⟨n, i1, i2, i3, i4⟩ := HST.out (by omega)
            have HN := Lib.hid i1
            have HV2 := Lib.hid i4
            clear i1 i4 HST
            go_wp2_with (refine wpl_toInt 36 Tryd.underlying65 Tryd.underlying3 rfl rfl rfl rfl (toInt_is HN.out (by omega)) ?_)
            go_loopw [6, 7] (fun e m wr => SpRel y (w.drewN q2) e m wr) (fun _ m _ => (RowKit.intOf m).toNat)
            case atStart => exact ⟨n, k2, rfl, rfl, i2, i3, HV2.out, rfl⟩
            case round =>
              obtain ⟨n4, q4, rfl, rfl, hn0, hn1, hv, hwr⟩ := hrel
              have hwr := hwr.symm
              subst hwr
              have HVN := Lib.hid hv
              obtain ⟨hq1, hq2⟩ := place_bounds (HVN.out.symm.trans HV.out) hn0 hn1 a1 a2 a3 a4
              have hmod : Int.tmod (n4 : Int) 2 = ((n4 % 2 : Nat) : Int) := by rw [Int.tmod_eq_emod_of_nonneg (by omega)]; omega
              clear hv
              by_cases he : n4 % 2 = 0
              · have hc : decide (Int.tmod (n4 : Int) 2 = 0) = true := decide_eq_true (by rw [hmod, he]; rfl)
                rw [he] at hmod
                have HN4 := Lib.hid (sp_next (W := w.drewN q2) hn0 hn1 HVN.out he)
                clear he
                go_wp2
                case roundEnd => exact HN4.out
              · have he1 : n4 % 2 = 1 := by omega
                rw [he1] at hmod
                have HE : SpEnd y w (.returned (.tuple #[.int .i64 (n4 : Int), .int .i64 q4, .bool true])) (w.drewN q2) := ⟨n4, q4, rfl, ⟨he1, hn1, Int.le_trans a3 (odd_place (HVN.out.symm.trans HV.out) he1), hq2, HVN.out⟩, _, rfl⟩
                clear he he1
                go_wp2
                exact bodyPost_ret (v := .tuple #[.int .i64 (n4 : Int), .int .i64 q4, .bool true]) (by simp (maxDischargeDepth := 6) [results, Tryd.results128, go_sem]) rfl HE
        · rw [decide_eq_false h23] at hl23
          obtain ⟨n, i1, i2, i3, i4⟩ := HST.out (ge23 a2 h23)
          have HN := Lib.hid i1
          have HV2 := Lib.hid i4
          clear i1 i4 HST h23
          go_wp2_with (refine wpl_toInt 36 Tryd.underlying65 Tryd.underlying3 rfl rfl rfl rfl (toInt_is HN.out (by omega)) ?_)
          go_loopw [6, 7] (fun e m wr => SpRel y (w.drewN q2) e m wr) (fun _ m _ => (RowKit.intOf m).toNat)
          case atStart => exact ⟨n, k2, rfl, rfl, i2, i3, HV2.out, rfl⟩
          case round =>
            obtain ⟨n4, q4, rfl, rfl, hn0, hn1, hv, hwr⟩ := hrel
            have hwr := hwr.symm
            subst hwr
            have HVN := Lib.hid hv
            obtain ⟨hq1, hq2⟩ := place_bounds (HVN.out.symm.trans HV.out) hn0 hn1 a1 a2 a3 a4
            have hmod : Int.tmod (n4 : Int) 2 = ((n4 % 2 : Nat) : Int) := by rw [Int.tmod_eq_emod_of_nonneg (by omega)]; omega
            clear hv
            by_cases he : n4 % 2 = 0
            · have hc : decide (Int.tmod (n4 : Int) 2 = 0) = true := decide_eq_true (by rw [hmod, he]; rfl)
              rw [he] at hmod
              have HN4 := Lib.hid (sp_next (W := w.drewN q2) hn0 hn1 HVN.out he)
              clear he
              go_wp2
              case roundEnd => exact HN4.out
            · have he1 : n4 % 2 = 1 := by omega
              rw [he1] at hmod
              have HE : SpEnd y w (.returned (.tuple #[.int .i64 (n4 : Int), .int .i64 q4, .bool true])) (w.drewN q2) := ⟨n4, q4, rfl, ⟨he1, hn1, Int.le_trans a3 (odd_place (HVN.out.symm.trans HV.out) he1), hq2, HVN.out⟩, _, rfl⟩
              clear he he1
              go_wp2
              exact bodyPost_ret (v := .tuple #[.int .i64 (n4 : Int), .int .i64 q4, .bool true]) (by simp (maxDischargeDepth := 6) [results, Tryd.results128, go_sem]) rfl HE
    · rw [decide_eq_false hlt] at hge
      have hq := ge24 a2 hlt
      clear hlt
      go_wp2_with (refine wpl_farith 22 rfl rfl rfl rfl rfl rfl ?_; intro r3 n3 hr3)
      go_roundw
      case rel => exact ⟨r3, k + 1, _, rfl, rfl, by omega, by omega, by have h9 := HB.out.half (by omega) (by omega) (by omega) hr3.out.1; rwa [show p - (k + 1) = p - k - 1 by omega], by first | rfl | rw [World.drewN_drewN]⟩
      case measure => simp [RowKit.intOf]; omega
theorem zero_wide {r : Nat} (hr : cw .f64 r = widen (cw .f32 0)) : r = 0 := by
  rw [cw_some .f32 (by decide)] at hr
  have h : widen (some 0) = some 0 := by kernel_rfl
  rw [h] at hr
  exact cw_out hr
theorem splitS_zero (w : World) : Calls Tryd.prog 128 #[.float .f32 0] w fun en w' => en = .returned (.tuple #[.int .i64 0, .int .i64 0, .bool true]) ∧ ∃ n, w' = w.drewN n := by
  go_enter Tryd.func128, Tryd.ntmps128
  go_wp2_with (first | (refine wpl_widen 9 Tryd.underlying73 Tryd.underlying65 rfl rfl rfl rfl ?_; intro r1 n1 hr1; have hr0 : r1 = 0 := zero_wide hr1.out.1; subst hr0) | (go_at_call 88; (with_reducible refine (l01Fine_any 0 _).mono ?_); rw [show finB .f64 0 = true by decide]; rintro en w2 ⟨rfl, n2, hw⟩; subst hw))
  exact bodyPost_ret (v := .tuple #[.int .i64 0, .int .i64 0, .bool true]) (by simp (maxDischargeDepth := 6) [results, Tryd.results128, go_sem]) rfl ⟨rfl, _, rfl⟩
theorem GS.gt0 {y : Nat} (h : GS y) : (FloatKind.f32.format.order y 0 == some .lt) = false := by
  rw [ord_lt (k := .f32) (Nat.le_of_lt h.2.1) (by decide), key_pos .f32 h.2.2, key_zero .f32 (ru_zero .f32), h.ru]
  exact decide_eq_false (by omega)
theorem one_over_zero {r : Nat} (hr : cw .f32 r = arithR .quo .f32 (cw .f32 1065353216) (cw .f32 0)) : (FloatKind.f32.format.order r 0 == some .lt) = false := by
  have h : arithR .quo .f32 (cw .f32 1065353216) (cw .f32 0) = some 2139095040 := by kernel_rfl
  rw [h] at hr
  rw [cw_out hr]; decide
theorem signTextS_GS (y : Nat) (w : World) (h : GS y) : Calls Tryd.prog 129 #[.float .f32 y] w fun en w' => en = .returned (tx [43]) ∧ ∃ n, w' = w.drewN n := by
  have hs := h.self
  have h1 := h.gt0
  have h2 := h.eq0
  by_cases h0 : y = 0
  · subst h0
    go_enter Tryd.func129, Tryd.ntmps129
    go_wp2_with (refine wpl_farith 13 rfl rfl rfl rfl rfl rfl ?_; intro r3 n3 hr3; have h3 := one_over_zero hr3.out.1)
    go_ret
    exact ⟨rfl, _, rfl⟩
  · rw [decide_eq_false h0] at h2
    go_enter Tryd.func129, Tryd.ntmps129
    go_wp2
    go_ret
    exact ⟨rfl, 0, (World.drewN_zero _).symm⟩
theorem fmtSingleS_any (y : Nat) (w : World) (h : GS y) : Calls Tryd.prog 123 #[.float .f32 y] w (FsEnd y w) := by
  have hs := h.self
  have HY := Lib.hid h
  clear h
  by_cases h0 : y = 0
  · have H0 := Lib.hid h0
    subst h0
    go_enter Tryd.func123, Tryd.ntmps123
    go_wp2_with (first | (go_at_call 128; (with_reducible refine (splitS_zero _).mono ?_); rintro en w1 ⟨rfl, n1, hw⟩; subst hw) | (go_at_call 129; (with_reducible refine (signTextS_GS 0 _ HY.out).mono ?_); rintro en w1 ⟨rfl, n2, hw⟩; subst hw))
    go_ret
    exact ⟨[48], rfl, .inl ⟨rfl, rfl⟩, by decide, bl_drewN (Below.refl _ _) _⟩
  · go_enter Tryd.func123, Tryd.ntmps123
    go_wp2_with fail
    go_at_call 128
    refine (splitS_any y _ HY.out h0).mono ?_
    rintro en w2 ⟨m, e, rfl, hsp, n3, hw⟩
    subst hw
    have HSP := Lib.hid hsp
    clear hsp
    have hm24 := HSP.out.2.1
    have hm1 := HSP.out.1
    have hme := HSP.out.2.2.1
    have hme2 := HSP.out.2.2.2.1
    have hl1 := itoa_length_le (m : Int) (by omega) (by omega)
    have hl2 := itoa_length_le e (by omega) (by omega)
    have hm0 : ((m : Int) == 0) = false := beq_eq_false_iff_ne.2 (by omega)
    have hm0' : decide ((m : Int) = 0) = false := decide_eq_false (by omega)
    have hs1 : (9223372036854775807 < 1 + (itoa (m : Int)).length) = False := eq_false (by omega)
    have hs2 : (9223372036854775807 < 1 + (itoa (m : Int)).length + 1) = False := eq_false (by omega)
    have hs3 : (9223372036854775807 < 1 + (itoa (m : Int)).length + 1 + (itoa e).length) = False := eq_false (by omega)
    go_wp2_with (go_at_call 129; (with_reducible refine (signTextS_GS y _ HY.out).mono ?_); rintro en w1 ⟨rfl, n2, hw⟩; subst hw)
    go_at_call 127
    refine (specFormatInt (m : Int) (by omega) (by omega) _).mono ?_
    rintro en w4 ⟨rfl, hb4⟩
    have hb4' : Below w.heap.size w w4 := bl_call (bl_drewN (Below.refl _ _) _) hb4
    have HB4 := Lib.hid hb4'
    clear hb4 hb4'
    go_wp2_with (go_at_call 127; (with_reducible refine (specFormatInt e (by omega) (by omega) _).mono ?_); rintro en w5 ⟨rfl, hb5⟩)
    go_ret
    refine ⟨itoa (m : Int) ++ 112 :: itoa e, ?_, .inr ⟨m, e, h0, HSP.out, rfl⟩, by simp; omega, bl_call HB4.out hb5⟩
    show Ending.returned (Value.string ((((⟨[43].toArray⟩ : ByteArray) ++ (⟨(itoa (m : Int)).toArray⟩ : ByteArray)) ++ (⟨[112].toArray⟩ : ByteArray)) ++ (⟨(itoa e).toArray⟩ : ByteArray))) = _
    rw [cat, cat, cat]
    simp
end Go.Proofs.YtjgjgjkffoagoaaDoor
