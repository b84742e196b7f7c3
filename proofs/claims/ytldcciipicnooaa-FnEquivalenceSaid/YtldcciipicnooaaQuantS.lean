/- The walk of QuantumOf on the other side. -/
import Derived.Test.YtldcciipicnooaaQuantW
namespace Go.Proofs.Ytldcciipicnooaa
open Go.RowKit
attribute [local go_sem] run_neg_float

theorem w64 (n : Int) (h : -9223372036854775808 ≤ n ∧ n ≤ 9223372036854775807) : wrap64 n = n := by unfold wrap64; omega
theorem toInt_amt {q a : Nat} (hq : ru FloatKind.f64.format q < FloatKind.f64.format.infRung) (hf : flN (amt q) ≤ 1000000000) (ha : ru FloatKind.f64.format a = ru FloatKind.f64.format q) (hs : sg FloatKind.f64.format a = false ∨ ru FloatKind.f64.format a = 0) :
    floatToIntVal .f64 a .i64 = some (flN (amt q) : Int) := by
  have h1 : amt q = rval FloatKind.f64.format (ru FloatKind.f64.format a) := by unfold amt; rw [ha]
  rw [h1] at hf ⊢
  rw [toIntVal (by rw [ha]; exact hq) (by omega)]
  rcases hs with h | h
  · rw [h]; rfl
  · have h2 : flN (rval FloatKind.f64.format (ru FloatKind.f64.format a)) = 0 := by rw [h, rval_zero]; exact flN_uniq (by simp) (by simp; grind)
    rw [h2]; split <;> rfl

def AmtOf (q a : Nat) : Prop := ru FloatKind.f64.format a = ru FloatKind.f64.format q ∧ (sg FloatKind.f64.format a = false ∨ ru FloatKind.f64.format a = 0)
theorem amt_neg {q : Nat} (hl : q < 2 ^ 64) (h : (sg FloatKind.f64.format q && decide (0 < ru FloatKind.f64.format q)) = true) : AmtOf q (Op.negFloat .f64 q) := by
  have hl' : q < 2 ^ FloatKind.f64.format.width := hl
  simp only [Bool.and_eq_true, decide_eq_true_eq] at h
  exact ⟨ru_neg .f64 hl', .inl (by rw [sg_neg .f64 hl', h.1]; rfl)⟩
theorem amt_pos {q : Nat} (h : (sg FloatKind.f64.format q && decide (0 < ru FloatKind.f64.format q)) = false) : AmtOf q q := by
  refine ⟨rfl, ?_⟩
  cases hs : sg FloatKind.f64.format q
  · exact .inl rfl
  · rw [hs] at h; simp at h; exact .inr h

set_option maxRecDepth 100000 in
set_option maxHeartbeats 4000000 in
theorem quantS_big0 (x : Nat) (s : ByteArray) (m e : Int) (w : World) (v q : Nat) (HU : Hid (unitF s.toList m e = (v, true))) (HX : Hid (finB .f32 x = true)) (HQ : Hid (quotW x v = some q)) (HL : Hid (q < 2 ^ 64)) (hneg : (FloatKind.f64.format.order q 0 == some .lt) = false) (hbig : (FloatKind.f64.format.order q 4741671816366391296 == some .gt) = true) (HF : Hid (quantF x (v, true) = (0, false))) :
    Calls Try.prog 39 #[.float .f32 x, .agg #[.string s, .int .i64 m, .int .i64 e]] w (QuEnd (quantF x (v, true)) w) := by
  go_enter Try.func39, Try.ntmps39
  go_wp2_with (first | (go_at_call 35; (with_reducible refine (unitS_any _ _ _ _).mono ?_); rintro en w' ⟨he, o, n, hw⟩; rw [HU.out] at he; subst he; subst hw) | (refine wpl_widen 20 Try.underlying24 Try.underlying39 rfl rfl rfl rfl ?_; intro r0 n0 hr0) | (go_at_call 63; (with_reducible refine (finite_is _ _ _ HX.out _ hr0.out.1).mono ?_); rintro e w8 ⟨rfl, m8, rfl⟩) | (refine wpl_widen 25 Try.underlying24 Try.underlying39 rfl rfl rfl rfl ?_; intro r1 n1 hr1) | (refine wpl_widen 27 Try.underlying24 Try.underlying39 rfl rfl rfl rfl ?_; intro r2 n2 hr2) | (refine wpl_farith 28 rfl rfl rfl rfl rfl rfl ?_; intro q' n3 hq'; obtain rfl : q' = q := cw_out (hq'.out.1.trans (by rw [hr1.out.1, hr2.out.1]; exact HQ.out))))
  go_ret2
  exact ⟨by rw [HF.out]; rfl, _, _, _, rfl⟩

set_option maxRecDepth 100000 in
set_option maxHeartbeats 4000000 in
theorem quantS_00 (x : Nat) (s : ByteArray) (m e : Int) (w : World) (v q : Nat) (HU : Hid (unitF s.toList m e = (v, true))) (HX : Hid (finB .f32 x = true)) (HQ : Hid (quotW x v = some q)) (HL : Hid (q < 2 ^ 64)) (hbig : (FloatKind.f64.format.order q 4741671816366391296 == some .gt) = false) (hneg : (FloatKind.f64.format.order q 0 == some .lt) = false) (HSM : Hid (ru FloatKind.f64.format q < FloatKind.f64.format.infRung)) (HF2 : Hid (flN (amt q) ≤ 1000000000)) (HNG : Hid ((sg FloatKind.f64.format q && decide (0 < ru FloatKind.f64.format q)) = false)) (HH : Hid (decide ((1 / 2 : Rat) ≤ amt q - (flN (amt q) : Rat)) = false)) (HA : Hid (AmtOf q q)) (HI : Hid (floatToIntVal .f64 q .i64 = some (flN (amt q) : Int))) (HK : Hid (Is (floatOfInt .f64 (flN (amt q) : Int)) (flN (amt q)) 0)) (HF : Hid (quantF x (v, true) = (sgI (sg FloatKind.f64.format q) (rnd (amt q)), true))) :
    Calls Try.prog 39 #[.float .f32 x, .agg #[.string s, .int .i64 m, .int .i64 e]] w (QuEnd (quantF x (v, true)) w) := by
  go_enter Try.func39, Try.ntmps39
  go_wp2_with (first | (go_at_call 35; (with_reducible refine (unitS_any _ _ _ _).mono ?_); rintro en w' ⟨he, o, n, hw⟩; rw [HU.out] at he; subst he; subst hw) | (refine wpl_widen 20 Try.underlying24 Try.underlying39 rfl rfl rfl rfl ?_; intro r0 n0 hr0) | (go_at_call 63; (with_reducible refine (finite_is _ _ _ HX.out _ hr0.out.1).mono ?_); rintro e w8 ⟨rfl, m8, rfl⟩) | (refine wpl_widen 25 Try.underlying24 Try.underlying39 rfl rfl rfl rfl ?_; intro r1 n1 hr1) | (refine wpl_widen 27 Try.underlying24 Try.underlying39 rfl rfl rfl rfl ?_; intro r2 n2 hr2) | (refine wpl_farith 28 rfl rfl rfl rfl rfl rfl ?_; intro q' n3 hq'; obtain rfl : q' = q := cw_out (hq'.out.1.trans (by rw [hr1.out.1, hr2.out.1]; exact HQ.out))) | (refine wpl_toInt 37 Try.underlying39 Try.underlying3 rfl rfl rfl rfl HI.out ?_) | (refine wpl_farith 41 rfl rfl rfl rfl rfl rfl ?_; intro d n4 hd; have hge := half_cmp HSM.out HA.out.1 HA.out.2 HK.out hd.out.1; rw [HH.out] at hge))
  go_ret2
  have hqv := quant_val HNG.out HH.out
  have hf2 := HF2.out
  rw [HF.out, hqv]
  refine ⟨?_, _, _, _, rfl⟩
  simp only [Bool.false_eq_true, if_false]
  rfl

set_option maxRecDepth 100000 in
set_option maxHeartbeats 4000000 in
theorem quantS_01 (x : Nat) (s : ByteArray) (m e : Int) (w : World) (v q : Nat) (HU : Hid (unitF s.toList m e = (v, true))) (HX : Hid (finB .f32 x = true)) (HQ : Hid (quotW x v = some q)) (HL : Hid (q < 2 ^ 64)) (hbig : (FloatKind.f64.format.order q 4741671816366391296 == some .gt) = false) (hneg : (FloatKind.f64.format.order q 0 == some .lt) = false) (HSM : Hid (ru FloatKind.f64.format q < FloatKind.f64.format.infRung)) (HF2 : Hid (flN (amt q) ≤ 1000000000)) (HNG : Hid ((sg FloatKind.f64.format q && decide (0 < ru FloatKind.f64.format q)) = false)) (HH : Hid (decide ((1 / 2 : Rat) ≤ amt q - (flN (amt q) : Rat)) = true)) (HA : Hid (AmtOf q q)) (HI : Hid (floatToIntVal .f64 q .i64 = some (flN (amt q) : Int))) (HK : Hid (Is (floatOfInt .f64 (flN (amt q) : Int)) (flN (amt q)) 0)) (HF : Hid (quantF x (v, true) = (sgI (sg FloatKind.f64.format q) (rnd (amt q)), true))) :
    Calls Try.prog 39 #[.float .f32 x, .agg #[.string s, .int .i64 m, .int .i64 e]] w (QuEnd (quantF x (v, true)) w) := by
  go_enter Try.func39, Try.ntmps39
  go_wp2_with (first | (go_at_call 35; (with_reducible refine (unitS_any _ _ _ _).mono ?_); rintro en w' ⟨he, o, n, hw⟩; rw [HU.out] at he; subst he; subst hw) | (refine wpl_widen 20 Try.underlying24 Try.underlying39 rfl rfl rfl rfl ?_; intro r0 n0 hr0) | (go_at_call 63; (with_reducible refine (finite_is _ _ _ HX.out _ hr0.out.1).mono ?_); rintro e w8 ⟨rfl, m8, rfl⟩) | (refine wpl_widen 25 Try.underlying24 Try.underlying39 rfl rfl rfl rfl ?_; intro r1 n1 hr1) | (refine wpl_widen 27 Try.underlying24 Try.underlying39 rfl rfl rfl rfl ?_; intro r2 n2 hr2) | (refine wpl_farith 28 rfl rfl rfl rfl rfl rfl ?_; intro q' n3 hq'; obtain rfl : q' = q := cw_out (hq'.out.1.trans (by rw [hr1.out.1, hr2.out.1]; exact HQ.out))) | (refine wpl_toInt 37 Try.underlying39 Try.underlying3 rfl rfl rfl rfl HI.out ?_) | (refine wpl_farith 41 rfl rfl rfl rfl rfl rfl ?_; intro d n4 hd; have hge := half_cmp HSM.out HA.out.1 HA.out.2 HK.out hd.out.1; rw [HH.out] at hge))
  go_ret2
  have hqv := quant_val HNG.out HH.out
  have hf2 := HF2.out
  rw [HF.out, hqv]
  refine ⟨?_, _, _, _, rfl⟩
  simp only [Bool.false_eq_true, if_true, if_false]
  have hw : wrap64 ((flN (amt q') : Int) + 1) = ((flN (amt q') + 1 : Nat) : Int) := by rw [w64 _ (by omega)]; omega
  exact congrArg (fun n => Ending.returned (Value.tuple #[.int .i64 n, .bool true])) hw

set_option maxRecDepth 100000 in
set_option maxHeartbeats 4000000 in
theorem quantS_big1 (x : Nat) (s : ByteArray) (m e : Int) (w : World) (v q : Nat) (HU : Hid (unitF s.toList m e = (v, true))) (HX : Hid (finB .f32 x = true)) (HQ : Hid (quotW x v = some q)) (HL : Hid (q < 2 ^ 64)) (hneg : (FloatKind.f64.format.order q 0 == some .lt) = true) (hbig : (FloatKind.f64.format.order (Op.negFloat .f64 q) 4741671816366391296 == some .gt) = true) (HF : Hid (quantF x (v, true) = (0, false))) :
    Calls Try.prog 39 #[.float .f32 x, .agg #[.string s, .int .i64 m, .int .i64 e]] w (QuEnd (quantF x (v, true)) w) := by
  go_enter Try.func39, Try.ntmps39
  go_wp2_with (first | (go_at_call 35; (with_reducible refine (unitS_any _ _ _ _).mono ?_); rintro en w' ⟨he, o, n, hw⟩; rw [HU.out] at he; subst he; subst hw) | (refine wpl_widen 20 Try.underlying24 Try.underlying39 rfl rfl rfl rfl ?_; intro r0 n0 hr0) | (go_at_call 63; (with_reducible refine (finite_is _ _ _ HX.out _ hr0.out.1).mono ?_); rintro e w8 ⟨rfl, m8, rfl⟩) | (refine wpl_widen 25 Try.underlying24 Try.underlying39 rfl rfl rfl rfl ?_; intro r1 n1 hr1) | (refine wpl_widen 27 Try.underlying24 Try.underlying39 rfl rfl rfl rfl ?_; intro r2 n2 hr2) | (refine wpl_farith 28 rfl rfl rfl rfl rfl rfl ?_; intro q' n3 hq'; obtain rfl : q' = q := cw_out (hq'.out.1.trans (by rw [hr1.out.1, hr2.out.1]; exact HQ.out))))
  go_ret2
  exact ⟨by rw [HF.out]; rfl, _, _, _, rfl⟩

set_option maxRecDepth 100000 in
set_option maxHeartbeats 4000000 in
theorem quantS_10 (x : Nat) (s : ByteArray) (m e : Int) (w : World) (v q : Nat) (HU : Hid (unitF s.toList m e = (v, true))) (HX : Hid (finB .f32 x = true)) (HQ : Hid (quotW x v = some q)) (HL : Hid (q < 2 ^ 64)) (hbig : (FloatKind.f64.format.order (Op.negFloat .f64 q) 4741671816366391296 == some .gt) = false) (hneg : (FloatKind.f64.format.order q 0 == some .lt) = true) (HSM : Hid (ru FloatKind.f64.format q < FloatKind.f64.format.infRung)) (HF2 : Hid (flN (amt q) ≤ 1000000000)) (HNG : Hid ((sg FloatKind.f64.format q && decide (0 < ru FloatKind.f64.format q)) = true)) (HH : Hid (decide ((1 / 2 : Rat) ≤ amt q - (flN (amt q) : Rat)) = false)) (HA : Hid (AmtOf q (Op.negFloat .f64 q))) (HI : Hid (floatToIntVal .f64 (Op.negFloat .f64 q) .i64 = some (flN (amt q) : Int))) (HK : Hid (Is (floatOfInt .f64 (flN (amt q) : Int)) (flN (amt q)) 0)) (HF : Hid (quantF x (v, true) = (sgI (sg FloatKind.f64.format q) (rnd (amt q)), true))) :
    Calls Try.prog 39 #[.float .f32 x, .agg #[.string s, .int .i64 m, .int .i64 e]] w (QuEnd (quantF x (v, true)) w) := by
  go_enter Try.func39, Try.ntmps39
  go_wp2_with (first | (go_at_call 35; (with_reducible refine (unitS_any _ _ _ _).mono ?_); rintro en w' ⟨he, o, n, hw⟩; rw [HU.out] at he; subst he; subst hw) | (refine wpl_widen 20 Try.underlying24 Try.underlying39 rfl rfl rfl rfl ?_; intro r0 n0 hr0) | (go_at_call 63; (with_reducible refine (finite_is _ _ _ HX.out _ hr0.out.1).mono ?_); rintro e w8 ⟨rfl, m8, rfl⟩) | (refine wpl_widen 25 Try.underlying24 Try.underlying39 rfl rfl rfl rfl ?_; intro r1 n1 hr1) | (refine wpl_widen 27 Try.underlying24 Try.underlying39 rfl rfl rfl rfl ?_; intro r2 n2 hr2) | (refine wpl_farith 28 rfl rfl rfl rfl rfl rfl ?_; intro q' n3 hq'; obtain rfl : q' = q := cw_out (hq'.out.1.trans (by rw [hr1.out.1, hr2.out.1]; exact HQ.out))) | (refine wpl_toInt 37 Try.underlying39 Try.underlying3 rfl rfl rfl rfl HI.out ?_) | (refine wpl_farith 41 rfl rfl rfl rfl rfl rfl ?_; intro d n4 hd; have hge := half_cmp HSM.out HA.out.1 HA.out.2 HK.out hd.out.1; rw [HH.out] at hge))
  go_ret2
  have hqv := quant_val HNG.out HH.out
  have hf2 := HF2.out
  rw [HF.out, hqv]
  refine ⟨?_, _, _, _, rfl⟩
  simp only [Bool.false_eq_true, if_true, if_false]
  have hw : wrap64 (-(flN (amt q') : Int)) = -(flN (amt q') : Int) := w64 _ (by omega)
  exact congrArg (fun n => Ending.returned (Value.tuple #[.int .i64 n, .bool true])) hw

set_option maxRecDepth 100000 in
set_option maxHeartbeats 4000000 in
theorem quantS_11 (x : Nat) (s : ByteArray) (m e : Int) (w : World) (v q : Nat) (HU : Hid (unitF s.toList m e = (v, true))) (HX : Hid (finB .f32 x = true)) (HQ : Hid (quotW x v = some q)) (HL : Hid (q < 2 ^ 64)) (hbig : (FloatKind.f64.format.order (Op.negFloat .f64 q) 4741671816366391296 == some .gt) = false) (hneg : (FloatKind.f64.format.order q 0 == some .lt) = true) (HSM : Hid (ru FloatKind.f64.format q < FloatKind.f64.format.infRung)) (HF2 : Hid (flN (amt q) ≤ 1000000000)) (HNG : Hid ((sg FloatKind.f64.format q && decide (0 < ru FloatKind.f64.format q)) = true)) (HH : Hid (decide ((1 / 2 : Rat) ≤ amt q - (flN (amt q) : Rat)) = true)) (HA : Hid (AmtOf q (Op.negFloat .f64 q))) (HI : Hid (floatToIntVal .f64 (Op.negFloat .f64 q) .i64 = some (flN (amt q) : Int))) (HK : Hid (Is (floatOfInt .f64 (flN (amt q) : Int)) (flN (amt q)) 0)) (HF : Hid (quantF x (v, true) = (sgI (sg FloatKind.f64.format q) (rnd (amt q)), true))) :
    Calls Try.prog 39 #[.float .f32 x, .agg #[.string s, .int .i64 m, .int .i64 e]] w (QuEnd (quantF x (v, true)) w) := by
  go_enter Try.func39, Try.ntmps39
  go_wp2_with (first | (go_at_call 35; (with_reducible refine (unitS_any _ _ _ _).mono ?_); rintro en w' ⟨he, o, n, hw⟩; rw [HU.out] at he; subst he; subst hw) | (refine wpl_widen 20 Try.underlying24 Try.underlying39 rfl rfl rfl rfl ?_; intro r0 n0 hr0) | (go_at_call 63; (with_reducible refine (finite_is _ _ _ HX.out _ hr0.out.1).mono ?_); rintro e w8 ⟨rfl, m8, rfl⟩) | (refine wpl_widen 25 Try.underlying24 Try.underlying39 rfl rfl rfl rfl ?_; intro r1 n1 hr1) | (refine wpl_widen 27 Try.underlying24 Try.underlying39 rfl rfl rfl rfl ?_; intro r2 n2 hr2) | (refine wpl_farith 28 rfl rfl rfl rfl rfl rfl ?_; intro q' n3 hq'; obtain rfl : q' = q := cw_out (hq'.out.1.trans (by rw [hr1.out.1, hr2.out.1]; exact HQ.out))) | (refine wpl_toInt 37 Try.underlying39 Try.underlying3 rfl rfl rfl rfl HI.out ?_) | (refine wpl_farith 41 rfl rfl rfl rfl rfl rfl ?_; intro d n4 hd; have hge := half_cmp HSM.out HA.out.1 HA.out.2 HK.out hd.out.1; rw [HH.out] at hge))
  go_ret2
  have hqv := quant_val HNG.out HH.out
  have hf2 := HF2.out
  rw [HF.out, hqv]
  refine ⟨?_, _, _, _, rfl⟩
  simp only [if_true]
  have hw : wrap64 (-wrap64 ((flN (amt q') : Int) + 1)) = -((flN (amt q') + 1 : Nat) : Int) := by rw [w64 (_ + 1) (by omega), w64 _ (by omega)]; omega
  exact congrArg (fun n => Ending.returned (Value.tuple #[.int .i64 n, .bool true])) hw

set_option maxRecDepth 100000 in
set_option maxHeartbeats 4000000 in
theorem quantS_any (x : Nat) (s : ByteArray) (m e : Int) (w : World) :
    Calls Try.prog 39 #[.float .f32 x, .agg #[.string s, .int .i64 m, .int .i64 e]] w (QuEnd (quantF x (unitF s.toList m e)) w) := by
  obtain ⟨u, hu⟩ : ∃ u, unitF s.toList m e = u := ⟨_, rfl⟩
  rw [hu]
  have HU := Lib.hid hu
  clear hu
  obtain ⟨v, ok⟩ := u
  cases ok
  · have HF : Hid (quantF x (v, false) = (0, false)) := Lib.hid rfl
    go_enter Try.func39, Try.ntmps39
    go_wp2_with (first | (go_at_call 35; (with_reducible refine (unitS_any _ _ _ _).mono ?_); rintro en w' ⟨he, o, n, hw⟩; rw [HU.out] at he; subst he; subst hw))
    go_ret2
    exact ⟨by rw [HF.out]; rfl, _, _, _, rfl⟩
  · cases hf : finB .f32 x
    · have HF : Hid (quantF x (v, true) = (0, false)) := Lib.hid (by unfold quantF; rw [hf]; rfl)
      have HX := Lib.hid hf
      clear hf
      go_enter Try.func39, Try.ntmps39
      go_wp2_with (first | (go_at_call 35; (with_reducible refine (unitS_any _ _ _ _).mono ?_); rintro en w' ⟨he, o, n, hw⟩; rw [HU.out] at he; subst he; subst hw) | (refine wpl_widen 20 Try.underlying24 Try.underlying39 rfl rfl rfl rfl ?_; intro r0 n0 hr0) | (go_at_call 63; (with_reducible refine (finite_is _ _ _ HX.out _ hr0.out.1).mono ?_); rintro e w8 ⟨rfl, m8, rfl⟩))
      go_ret2
      exact ⟨by rw [HF.out]; rfl, _, _, _, rfl⟩
    · have hxf : ru FloatKind.f32.format x < FloatKind.f32.format.infRung := by simpa [finB] using hf
      obtain ⟨u1, u2, u3⟩ := unit_word HU.out
      obtain ⟨q, hq, hcq, hql⟩ := quot_some hxf u2 u3
      have HX := Lib.hid hf
      have hle := cw_le hcq
      have HQ := Lib.hid hq
      have HL := Lib.hid hql
      have hneg := neg_cmp hle
      obtain ⟨ng, hng⟩ : ∃ ng, (sg FloatKind.f64.format q && decide (0 < ru FloatKind.f64.format q)) = ng := ⟨_, rfl⟩
      rw [hng] at hneg
      cases hsm : small q
      · have HF : Hid (quantF x (v, true) = (0, false)) := Lib.hid (by unfold quantF; rw [HX.out]; simp only [HQ.out]; simp [hsm])
        cases ng
        · have hb := big_cmp hle (amt_pos hng).1 (amt_pos hng).2
          rw [hsm] at hb
          exact quantS_big0 x s m e w v q HU HX HQ HL hneg hb HF
        · have hb := big_cmp hle (amt_neg hql hng).1 (amt_neg hql hng).2
          rw [hsm] at hb
          exact quantS_big1 x s m e w v q HU HX HQ HL hneg hb HF
      · obtain ⟨f1, f2⟩ := small_flN hsm
        have HF : Hid (quantF x (v, true) = (sgI (sg FloatKind.f64.format q) (rnd (amt q)), true)) := Lib.hid (by unfold quantF; rw [HX.out]; simp only [HQ.out]; simp [hsm])
        obtain ⟨hh, hhd⟩ : ∃ hh, decide ((1 / 2 : Rat) ≤ amt q - (flN (amt q) : Rat)) = hh := ⟨_, rfl⟩
        have HK := Lib.hid (Is.ofNat (m := flN (amt q)) (by omega))
        cases ng
        · have ha := amt_pos hng
          have hb := big_cmp hle ha.1 ha.2
          rw [hsm] at hb
          have HI := Lib.hid (toInt_amt f1 f2 ha.1 ha.2)
          cases hh
          · exact quantS_00 x s m e w v q HU HX HQ HL hb hneg (Lib.hid f1) (Lib.hid f2) (Lib.hid hng) (Lib.hid hhd) (Lib.hid ha) HI HK HF
          · exact quantS_01 x s m e w v q HU HX HQ HL hb hneg (Lib.hid f1) (Lib.hid f2) (Lib.hid hng) (Lib.hid hhd) (Lib.hid ha) HI HK HF
        · have ha := amt_neg hql hng
          have hb := big_cmp hle ha.1 ha.2
          rw [hsm] at hb
          have HI := Lib.hid (toInt_amt f1 f2 ha.1 ha.2)
          cases hh
          · exact quantS_10 x s m e w v q HU HX HQ HL hb hneg (Lib.hid f1) (Lib.hid f2) (Lib.hid hng) (Lib.hid hhd) (Lib.hid ha) HI HK HF
          · exact quantS_11 x s m e w v q HU HX HQ HL hb hneg (Lib.hid f1) (Lib.hid f2) (Lib.hid hng) (Lib.hid hhd) (Lib.hid ha) HI HK HF
end Go.Proofs.Ytldcciipicnooaa
