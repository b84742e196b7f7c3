/- The walks of both QuantumOf. -/
import Derived.Test.YtldcciipicnooaaDoorQuant
namespace Go.Proofs.YtldcciipicnooaaDoor
open Go.RowKit
attribute [local go_sem] run_neg_float

def QuEnd (v : Int × Bool) (w : World) (en : Ending) (w' : World) : Prop := en = .returned (.tuple #[.int .i64 v.1, .bool v.2]) ∧ ∃ o1 o2 n, w' = ((w.alloc o1).alloc o2).drewN n
theorem alloc_drewN (w : World) (o : Obj) (n : Nat) : (w.drewN n).alloc o = (w.alloc o).drewN n := rfl
def TrEnd (n : Nat) (w : World) (en : Ending) (w' : World) : Prop := ∃ t, en = .returned (.float .f64 t) ∧ Is t n 0 ∧ w' = w
theorem trunc_any (b : Nat) (w : World) (hs : sg FloatKind.f64.format b = false) (h : ru FloatKind.f64.format b < FloatKind.f64.format.infRung) (hv : flN (amt b) < 2 ^ 53) :
    Calls Tryd.prog 87 #[.float .f64 b] w (TrEnd (flN (amt b)) w) := by
  have ht := run_trunc b h
  have H := Lib.hid (Is.trunc h hs hv)
  clear hs h hv
  go_enter Tryd.func87, Tryd.ntmps87
  go_wp2_with fail
  go_ret
  exact ⟨_, rfl, H.out, rfl⟩

theorem small_flN {q : Nat} (h : small q = true) : ru FloatKind.f64.format q < FloatKind.f64.format.infRung ∧ flN (amt q) ≤ 1000000000 := by
  unfold small at h
  simp only [decide_eq_true_eq] at h
  refine ⟨h.1, ?_⟩
  obtain ⟨a, _⟩ := flN_spec (v := amt q) (rval_nonneg _ _)
  have h2 : (flN (amt q) : Rat) ≤ ((1000000000 : Nat) : Rat) := by
    have h3 : ((1000000000 : Nat) : Rat) = 1000000000 := by simp
    have h4 := h.2
    grind
  exact Rat.natCast_le_natCast.1 h2
theorem neg_cmp {q : Nat} (hq : ru FloatKind.f64.format q ≤ FloatKind.f64.format.infRung) : (FloatKind.f64.format.order q 0 == some .lt) = (sg FloatKind.f64.format q && decide (0 < ru FloatKind.f64.format q)) := by
  rw [ord_lt .f64 hq (by rw [ru_zero]; exact Nat.zero_le _), key_zero .f64 (ru_zero .f64)]
  unfold key
  cases sg FloatKind.f64.format q <;> simp
theorem cw_le {k : FloatKind} {q : Nat} (h : cw k q = some q) : ru k.format q ≤ k.format.infRung := by
  rcases cw_cases k q with ⟨h3, _⟩ | ⟨_, h4⟩
  · rw [h3] at h; cases h
  · exact h4
theorem ru_lt64 (q : Nat) : ru FloatKind.f64.format q < 2 ^ 64 := by
  have := ru_lt FloatKind.f64.format q
  rw [s64] at this; omega
theorem amt_ru (q : Nat) : amt (ru FloatKind.f64.format q) = amt q := by unfold amt; rw [ru_ru]
theorem finite_is (b : Nat) (bb : Bool) (w : World) (h : finB .f32 b = bb) (r : Nat) (hr : cw .f64 r = widen (cw .f32 b)) :
    Calls Tryd.prog 97 #[.float .f64 r] w fun e w' => e = .returned (.bool bb) ∧ ∃ n, w' = w.drewN n := by
  have := l01Fine_any r w
  rw [fin_widen hr, h] at this
  exact this

theorem quant_val {q : Nat} {ng hh : Bool} (hng : (sg FloatKind.f64.format q && decide (0 < ru FloatKind.f64.format q)) = ng) (hhh : decide ((1 / 2 : Rat) ≤ amt q - (flN (amt q) : Rat)) = hh) :
    sgI (sg FloatKind.f64.format q) (rnd (amt q)) = if ng then -((if hh then flN (amt q) + 1 else flN (amt q) : Nat) : Int) else ((if hh then flN (amt q) + 1 else flN (amt q) : Nat) : Int) := by
  have hr : rnd (amt q) = if hh then flN (amt q) + 1 else flN (amt q) := by
    unfold rnd
    rw [← hhh]
    by_cases h : (1 / 2 : Rat) ≤ amt q - (flN (amt q) : Rat)
    · rw [if_pos h, decide_eq_true h, if_pos rfl]
    · rw [if_neg h, decide_eq_false h, if_neg (by simp)]
  rw [hr]
  unfold sgI
  cases hs : sg FloatKind.f64.format q
  · rw [hs] at hng
    have : ng = false := by rw [← hng]; rfl
    subst this
    simp only [Bool.false_eq_true, if_false]
  · rw [hs] at hng
    cases ng
    · -- 0 with a sign
      have h0 : ru FloatKind.f64.format q = 0 := by
        have : decide (0 < ru FloatKind.f64.format q) = false := by simpa using hng
        simp at this
        omega
      have ha : amt q = 0 := by unfold amt; rw [h0, rval_zero]
      have hf : flN (amt q) = 0 := by rw [ha]; exact flN_uniq (by simp) (by simp; grind)
      have hh0 : hh = false := by rw [← hhh, hf, ha]; exact decide_eq_false (by simp; grind)
      subst hh0
      rw [hf]
      simp
    · simp only [if_true]

set_option maxRecDepth 100000 in
set_option maxHeartbeats 4000000 in
theorem quantI_00 (x : Nat) (s : ByteArray) (m e : Int) (w : World) (v q : Nat) (HU : Hid (unitF s.toList m e = (v, true))) (HX : Hid (finB .f32 x = true)) (HQ : Hid (quotW x v = some q)) (HL : Hid (q < 2 ^ 64)) (hbig : (FloatKind.f64.format.order (ru FloatKind.f64.format q) 4741671816366391296 == some .gt) = false) (hneg : (FloatKind.f64.format.order q 0 == some .lt) = false) (HSM : Hid (ru FloatKind.f64.format q < FloatKind.f64.format.infRung)) (HF2 : Hid (flN (amt q) ≤ 1000000000)) (HNG : Hid ((sg FloatKind.f64.format q && decide (0 < ru FloatKind.f64.format q)) = false)) (HH : Hid (decide ((1 / 2 : Rat) ≤ amt q - (flN (amt q) : Rat)) = false)) (HT1 : Hid (ru FloatKind.f64.format (ru FloatKind.f64.format q) < FloatKind.f64.format.infRung)) (HT2 : Hid (flN (amt (ru FloatKind.f64.format q)) < 2 ^ 53)) (HF : Hid (quantF x (v, true) = (sgI (sg FloatKind.f64.format q) (rnd (amt q)), true))) :
    Calls Tryd.prog 68 #[.float .f32 x, .agg #[.string s, .int .i64 m, .int .i64 e]] w (QuEnd (quantF x (v, true)) w) := by
  go_enter Tryd.func68, Tryd.ntmps68
  go_wp2_with (first | (go_at_call 20; (with_reducible refine (unitI_any _ _ _ _).mono ?_); rintro en w' ⟨he, o, n, hw⟩; rw [HU.out] at he; subst he; subst hw) | (go_at_call 70; (with_reducible refine (finiteSingle_is _ _ _ HX.out).mono ?_); rintro e w8 ⟨rfl, m8, rfl⟩) | (refine wpl_widen 24 Tryd.underlying46 Tryd.underlying92 rfl rfl rfl rfl ?_; intro r1 n1 hr1) | (refine wpl_widen 26 Tryd.underlying46 Tryd.underlying92 rfl rfl rfl rfl ?_; intro r2 n2 hr2) | (refine wpl_farith 27 rfl rfl rfl rfl rfl rfl ?_; intro q' n3 hq'; obtain rfl : q' = q := cw_out (hq'.out.1.trans (by rw [hr1.out.1, hr2.out.1]; exact HQ.out))) | (go_at_call 86; (with_reducible refine (abs_any _ _ HL.out).mono ?_); rintro e w9 ⟨rfl, hw9⟩; have hw9x := hw9.symm; clear hw9; subst hw9x) | (go_at_call 87; (with_reducible refine (trunc_any _ _ (sg_ru _ _) HT1.out HT2.out).mono ?_); rintro en w' ⟨t, rfl, ht, hw⟩; rw [amt_ru] at ht; have hw' := hw.symm; clear hw; subst hw'; have HT := Lib.hid ht; clear ht) | (refine wpl_farith 36 rfl rfl rfl rfl rfl rfl ?_; intro d n4 hd; have hge := half_cmp HSM.out (ru_ru _ _) (.inl (sg_ru _ _)) HT.out hd.out.1; rw [HH.out] at hge) | (refine wpl_farith 39 rfl rfl rfl rfl rfl rfl ?_; intro t1 n5 ht1; have HT1' := Lib.hid (HT.out.addOne (by have := HF2.out; omega) ht1.out.1)) | (refine wpl_toInt 45 Tryd.underlying92 Tryd.underlying3 rfl rfl rfl rfl (toInt_is HT.out (by have := HF2.out; omega)) ?_))
  go_ret2
  have hqv := quant_val HNG.out HH.out
  simp only [Bool.false_eq_true, if_true, if_false] at hqv
  exact ⟨by rw [HF.out, hqv]; rfl, _, _, _, rfl⟩

set_option maxRecDepth 100000 in
set_option maxHeartbeats 4000000 in
theorem quantI_01 (x : Nat) (s : ByteArray) (m e : Int) (w : World) (v q : Nat) (HU : Hid (unitF s.toList m e = (v, true))) (HX : Hid (finB .f32 x = true)) (HQ : Hid (quotW x v = some q)) (HL : Hid (q < 2 ^ 64)) (hbig : (FloatKind.f64.format.order (ru FloatKind.f64.format q) 4741671816366391296 == some .gt) = false) (hneg : (FloatKind.f64.format.order q 0 == some .lt) = false) (HSM : Hid (ru FloatKind.f64.format q < FloatKind.f64.format.infRung)) (HF2 : Hid (flN (amt q) ≤ 1000000000)) (HNG : Hid ((sg FloatKind.f64.format q && decide (0 < ru FloatKind.f64.format q)) = false)) (HH : Hid (decide ((1 / 2 : Rat) ≤ amt q - (flN (amt q) : Rat)) = true)) (HT1 : Hid (ru FloatKind.f64.format (ru FloatKind.f64.format q) < FloatKind.f64.format.infRung)) (HT2 : Hid (flN (amt (ru FloatKind.f64.format q)) < 2 ^ 53)) (HF : Hid (quantF x (v, true) = (sgI (sg FloatKind.f64.format q) (rnd (amt q)), true))) :
    Calls Tryd.prog 68 #[.float .f32 x, .agg #[.string s, .int .i64 m, .int .i64 e]] w (QuEnd (quantF x (v, true)) w) := by
  go_enter Tryd.func68, Tryd.ntmps68
  go_wp2_with (first | (go_at_call 20; (with_reducible refine (unitI_any _ _ _ _).mono ?_); rintro en w' ⟨he, o, n, hw⟩; rw [HU.out] at he; subst he; subst hw) | (go_at_call 70; (with_reducible refine (finiteSingle_is _ _ _ HX.out).mono ?_); rintro e w8 ⟨rfl, m8, rfl⟩) | (refine wpl_widen 24 Tryd.underlying46 Tryd.underlying92 rfl rfl rfl rfl ?_; intro r1 n1 hr1) | (refine wpl_widen 26 Tryd.underlying46 Tryd.underlying92 rfl rfl rfl rfl ?_; intro r2 n2 hr2) | (refine wpl_farith 27 rfl rfl rfl rfl rfl rfl ?_; intro q' n3 hq'; obtain rfl : q' = q := cw_out (hq'.out.1.trans (by rw [hr1.out.1, hr2.out.1]; exact HQ.out))) | (go_at_call 86; (with_reducible refine (abs_any _ _ HL.out).mono ?_); rintro e w9 ⟨rfl, hw9⟩; have hw9x := hw9.symm; clear hw9; subst hw9x) | (go_at_call 87; (with_reducible refine (trunc_any _ _ (sg_ru _ _) HT1.out HT2.out).mono ?_); rintro en w' ⟨t, rfl, ht, hw⟩; rw [amt_ru] at ht; have hw' := hw.symm; clear hw; subst hw'; have HT := Lib.hid ht; clear ht) | (refine wpl_farith 36 rfl rfl rfl rfl rfl rfl ?_; intro d n4 hd; have hge := half_cmp HSM.out (ru_ru _ _) (.inl (sg_ru _ _)) HT.out hd.out.1; rw [HH.out] at hge) | (refine wpl_farith 39 rfl rfl rfl rfl rfl rfl ?_; intro t1 n5 ht1; have HT1' := Lib.hid (HT.out.addOne (by have := HF2.out; omega) ht1.out.1)) | (refine wpl_toInt 45 Tryd.underlying92 Tryd.underlying3 rfl rfl rfl rfl (toInt_is HT1'.out (by have := HF2.out; omega)) ?_))
  go_ret2
  have hqv := quant_val HNG.out HH.out
  simp only [Bool.false_eq_true, if_true, if_false] at hqv
  exact ⟨by rw [HF.out, hqv]; rfl, _, _, _, rfl⟩

set_option maxRecDepth 100000 in
set_option maxHeartbeats 4000000 in
theorem quantI_10 (x : Nat) (s : ByteArray) (m e : Int) (w : World) (v q : Nat) (HU : Hid (unitF s.toList m e = (v, true))) (HX : Hid (finB .f32 x = true)) (HQ : Hid (quotW x v = some q)) (HL : Hid (q < 2 ^ 64)) (hbig : (FloatKind.f64.format.order (ru FloatKind.f64.format q) 4741671816366391296 == some .gt) = false) (hneg : (FloatKind.f64.format.order q 0 == some .lt) = true) (HSM : Hid (ru FloatKind.f64.format q < FloatKind.f64.format.infRung)) (HF2 : Hid (flN (amt q) ≤ 1000000000)) (HNG : Hid ((sg FloatKind.f64.format q && decide (0 < ru FloatKind.f64.format q)) = true)) (HH : Hid (decide ((1 / 2 : Rat) ≤ amt q - (flN (amt q) : Rat)) = false)) (HT1 : Hid (ru FloatKind.f64.format (ru FloatKind.f64.format q) < FloatKind.f64.format.infRung)) (HT2 : Hid (flN (amt (ru FloatKind.f64.format q)) < 2 ^ 53)) (HF : Hid (quantF x (v, true) = (sgI (sg FloatKind.f64.format q) (rnd (amt q)), true))) :
    Calls Tryd.prog 68 #[.float .f32 x, .agg #[.string s, .int .i64 m, .int .i64 e]] w (QuEnd (quantF x (v, true)) w) := by
  go_enter Tryd.func68, Tryd.ntmps68
  go_wp2_with (first | (go_at_call 20; (with_reducible refine (unitI_any _ _ _ _).mono ?_); rintro en w' ⟨he, o, n, hw⟩; rw [HU.out] at he; subst he; subst hw) | (go_at_call 70; (with_reducible refine (finiteSingle_is _ _ _ HX.out).mono ?_); rintro e w8 ⟨rfl, m8, rfl⟩) | (refine wpl_widen 24 Tryd.underlying46 Tryd.underlying92 rfl rfl rfl rfl ?_; intro r1 n1 hr1) | (refine wpl_widen 26 Tryd.underlying46 Tryd.underlying92 rfl rfl rfl rfl ?_; intro r2 n2 hr2) | (refine wpl_farith 27 rfl rfl rfl rfl rfl rfl ?_; intro q' n3 hq'; obtain rfl : q' = q := cw_out (hq'.out.1.trans (by rw [hr1.out.1, hr2.out.1]; exact HQ.out))) | (go_at_call 86; (with_reducible refine (abs_any _ _ HL.out).mono ?_); rintro e w9 ⟨rfl, hw9⟩; have hw9x := hw9.symm; clear hw9; subst hw9x) | (go_at_call 87; (with_reducible refine (trunc_any _ _ (sg_ru _ _) HT1.out HT2.out).mono ?_); rintro en w' ⟨t, rfl, ht, hw⟩; rw [amt_ru] at ht; have hw' := hw.symm; clear hw; subst hw'; have HT := Lib.hid ht; clear ht) | (refine wpl_farith 36 rfl rfl rfl rfl rfl rfl ?_; intro d n4 hd; have hge := half_cmp HSM.out (ru_ru _ _) (.inl (sg_ru _ _)) HT.out hd.out.1; rw [HH.out] at hge) | (refine wpl_farith 39 rfl rfl rfl rfl rfl rfl ?_; intro t1 n5 ht1; have HT1' := Lib.hid (HT.out.addOne (by have := HF2.out; omega) ht1.out.1)) | (refine wpl_toInt 45 Tryd.underlying92 Tryd.underlying3 rfl rfl rfl rfl (toInt_neg HT.out (by have := HF2.out; omega)) ?_))
  go_ret2
  have hqv := quant_val HNG.out HH.out
  simp only [Bool.false_eq_true, if_true, if_false] at hqv
  exact ⟨by rw [HF.out, hqv]; rfl, _, _, _, rfl⟩

set_option maxRecDepth 100000 in
set_option maxHeartbeats 4000000 in
theorem quantI_11 (x : Nat) (s : ByteArray) (m e : Int) (w : World) (v q : Nat) (HU : Hid (unitF s.toList m e = (v, true))) (HX : Hid (finB .f32 x = true)) (HQ : Hid (quotW x v = some q)) (HL : Hid (q < 2 ^ 64)) (hbig : (FloatKind.f64.format.order (ru FloatKind.f64.format q) 4741671816366391296 == some .gt) = false) (hneg : (FloatKind.f64.format.order q 0 == some .lt) = true) (HSM : Hid (ru FloatKind.f64.format q < FloatKind.f64.format.infRung)) (HF2 : Hid (flN (amt q) ≤ 1000000000)) (HNG : Hid ((sg FloatKind.f64.format q && decide (0 < ru FloatKind.f64.format q)) = true)) (HH : Hid (decide ((1 / 2 : Rat) ≤ amt q - (flN (amt q) : Rat)) = true)) (HT1 : Hid (ru FloatKind.f64.format (ru FloatKind.f64.format q) < FloatKind.f64.format.infRung)) (HT2 : Hid (flN (amt (ru FloatKind.f64.format q)) < 2 ^ 53)) (HF : Hid (quantF x (v, true) = (sgI (sg FloatKind.f64.format q) (rnd (amt q)), true))) :
    Calls Tryd.prog 68 #[.float .f32 x, .agg #[.string s, .int .i64 m, .int .i64 e]] w (QuEnd (quantF x (v, true)) w) := by
  go_enter Tryd.func68, Tryd.ntmps68
  go_wp2_with (first | (go_at_call 20; (with_reducible refine (unitI_any _ _ _ _).mono ?_); rintro en w' ⟨he, o, n, hw⟩; rw [HU.out] at he; subst he; subst hw) | (go_at_call 70; (with_reducible refine (finiteSingle_is _ _ _ HX.out).mono ?_); rintro e w8 ⟨rfl, m8, rfl⟩) | (refine wpl_widen 24 Tryd.underlying46 Tryd.underlying92 rfl rfl rfl rfl ?_; intro r1 n1 hr1) | (refine wpl_widen 26 Tryd.underlying46 Tryd.underlying92 rfl rfl rfl rfl ?_; intro r2 n2 hr2) | (refine wpl_farith 27 rfl rfl rfl rfl rfl rfl ?_; intro q' n3 hq'; obtain rfl : q' = q := cw_out (hq'.out.1.trans (by rw [hr1.out.1, hr2.out.1]; exact HQ.out))) | (go_at_call 86; (with_reducible refine (abs_any _ _ HL.out).mono ?_); rintro e w9 ⟨rfl, hw9⟩; have hw9x := hw9.symm; clear hw9; subst hw9x) | (go_at_call 87; (with_reducible refine (trunc_any _ _ (sg_ru _ _) HT1.out HT2.out).mono ?_); rintro en w' ⟨t, rfl, ht, hw⟩; rw [amt_ru] at ht; have hw' := hw.symm; clear hw; subst hw'; have HT := Lib.hid ht; clear ht) | (refine wpl_farith 36 rfl rfl rfl rfl rfl rfl ?_; intro d n4 hd; have hge := half_cmp HSM.out (ru_ru _ _) (.inl (sg_ru _ _)) HT.out hd.out.1; rw [HH.out] at hge) | (refine wpl_farith 39 rfl rfl rfl rfl rfl rfl ?_; intro t1 n5 ht1; have HT1' := Lib.hid (HT.out.addOne (by have := HF2.out; omega) ht1.out.1)) | (refine wpl_toInt 45 Tryd.underlying92 Tryd.underlying3 rfl rfl rfl rfl (toInt_neg HT1'.out (by have := HF2.out; omega)) ?_))
  go_ret2
  have hqv := quant_val HNG.out HH.out
  simp only [Bool.false_eq_true, if_true, if_false] at hqv
  exact ⟨by rw [HF.out, hqv]; rfl, _, _, _, rfl⟩

set_option maxRecDepth 100000 in
set_option maxHeartbeats 4000000 in
theorem quantI_any (x : Nat) (s : ByteArray) (m e : Int) (w : World) :
    Calls Tryd.prog 68 #[.float .f32 x, .agg #[.string s, .int .i64 m, .int .i64 e]] w (QuEnd (quantF x (unitF s.toList m e)) w) := by
  obtain ⟨u, hu⟩ : ∃ u, unitF s.toList m e = u := ⟨_, rfl⟩
  rw [hu]
  have HU := Lib.hid hu
  clear hu
  obtain ⟨v, ok⟩ := u
  cases ok
  · have HF : Hid (quantF x (v, false) = (0, false)) := Lib.hid rfl
    go_enter Tryd.func68, Tryd.ntmps68
    go_wp2_with (go_at_call 20; (with_reducible refine (unitI_any _ _ _ _).mono ?_); rintro en w' ⟨he, o, n, hw⟩; rw [HU.out] at he; subst he; subst hw)
    go_ret2
    exact ⟨by rw [HF.out]; rfl, _, _, _, rfl⟩
  · cases hf : finB .f32 x
    · have HF : Hid (quantF x (v, true) = (0, false)) := Lib.hid (by unfold quantF; rw [hf]; rfl)
      have HX := Lib.hid hf
      clear hf
      go_enter Tryd.func68, Tryd.ntmps68
      go_wp2_with (first | (go_at_call 20; (with_reducible refine (unitI_any _ _ _ _).mono ?_); rintro en w' ⟨he, o, n, hw⟩; rw [HU.out] at he; subst he; subst hw) | (go_at_call 70; (with_reducible refine (finiteSingle_is _ _ _ HX.out).mono ?_); rintro e w8 ⟨rfl, m8, rfl⟩))
      go_ret2
      exact ⟨by rw [HF.out]; rfl, _, _, _, rfl⟩
    · have hxf : ru FloatKind.f32.format x < FloatKind.f32.format.infRung := by simpa [finB] using hf
      obtain ⟨u1, u2, u3⟩ := unit_word HU.out
      obtain ⟨q, hq, hcq, hql⟩ := quot_some hxf u2 u3
      have HX := Lib.hid hf
      have hle := cw_le hcq
      have HQ := Lib.hid hq
      have HCQ := Lib.hid hcq
      have HL := Lib.hid hql
      have hbig : (FloatKind.f64.format.order (ru FloatKind.f64.format q) 4741671816366391296 == some .gt) = !small q := big_cmp hle (ru_ru _ _) (.inl (sg_ru _ _))
      cases hsm : small q
      · have HF : Hid (quantF x (v, true) = (0, false)) := Lib.hid (by unfold quantF; rw [HX.out]; simp only [HQ.out]; simp [hsm])
        rw [hsm] at hbig
        clear hf hxf u1 u2 u3 hq hcq hle hsm hql
        go_enter Tryd.func68, Tryd.ntmps68
        go_wp2_with (first | (go_at_call 20; (with_reducible refine (unitI_any _ _ _ _).mono ?_); rintro en w' ⟨he, o, n, hw⟩; rw [HU.out] at he; subst he; subst hw) | (go_at_call 70; (with_reducible refine (finiteSingle_is _ _ _ HX.out).mono ?_); rintro e w8 ⟨rfl, m8, rfl⟩) | (refine wpl_widen 24 Tryd.underlying46 Tryd.underlying92 rfl rfl rfl rfl ?_; intro r1 n1 hr1) | (refine wpl_widen 26 Tryd.underlying46 Tryd.underlying92 rfl rfl rfl rfl ?_; intro r2 n2 hr2) | (refine wpl_farith 27 rfl rfl rfl rfl rfl rfl ?_; intro q' n3 hq'; obtain rfl : q' = q := cw_out (hq'.out.1.trans (by rw [hr1.out.1, hr2.out.1]; exact HQ.out))) | (go_at_call 86; (with_reducible refine (abs_any _ _ HL.out).mono ?_); rintro e w9 ⟨rfl, hw9⟩; have hw9x := hw9.symm; clear hw9; subst hw9x))
        go_ret2
        exact ⟨by rw [HF.out]; rfl, _, _, _, rfl⟩
      · obtain ⟨f1, f2⟩ := small_flN hsm
        rw [hsm] at hbig
        have hneg := neg_cmp hle
        have HF : Hid (quantF x (v, true) = (sgI (sg FloatKind.f64.format q) (rnd (amt q)), true)) := Lib.hid (by unfold quantF; rw [HX.out]; simp only [HQ.out]; simp [hsm])
        obtain ⟨ng, hng⟩ : ∃ ng, (sg FloatKind.f64.format q && decide (0 < ru FloatKind.f64.format q)) = ng := ⟨_, rfl⟩
        rw [hng] at hneg
        obtain ⟨hh, hhd⟩ : ∃ hh, decide ((1 / 2 : Rat) ≤ amt q - (flN (amt q) : Rat)) = hh := ⟨_, rfl⟩
        have HT1 : Hid (ru FloatKind.f64.format (ru FloatKind.f64.format q) < FloatKind.f64.format.infRung) := Lib.hid (by rw [ru_ru]; exact f1)
        have HT2 : Hid (flN (amt (ru FloatKind.f64.format q)) < 2 ^ 53) := Lib.hid (by rw [amt_ru]; omega)
        cases ng <;> cases hh
        · exact quantI_00 x s m e w v q HU HX HQ HL hbig hneg (Lib.hid f1) (Lib.hid f2) (Lib.hid hng) (Lib.hid hhd) HT1 HT2 HF
        · exact quantI_01 x s m e w v q HU HX HQ HL hbig hneg (Lib.hid f1) (Lib.hid f2) (Lib.hid hng) (Lib.hid hhd) HT1 HT2 HF
        · exact quantI_10 x s m e w v q HU HX HQ HL hbig hneg (Lib.hid f1) (Lib.hid f2) (Lib.hid hng) (Lib.hid hhd) HT1 HT2 HF
        · exact quantI_11 x s m e w v q HU HX HQ HL hbig hneg (Lib.hid f1) (Lib.hid f2) (Lib.hid hng) (Lib.hid hhd) HT1 HT2 HF
end Go.Proofs.YtldcciipicnooaaDoor
