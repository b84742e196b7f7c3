/- MakeSingle: the program's and the reference's come to one answer, whatever a number past the singles is narrowed to. -/
import Derived.Test.YtjgjgjkffoagoaaDoorMake
namespace Go.Proofs.YtjgjgjkffoagoaaDoor
open Go.RowKit
attribute [local go_sem] run_neg_float

/-- Is there a finite single of just this amount? -/
def mkOk (m : Nat) (e : Int) : Bool := decide (rungOf FloatKind.f32.format m e < FloatKind.f32.format.infRung ∧ rval FloatKind.f32.format (rungOf FloatKind.f32.format m e) = vOf m e)
/-- 'float64(y) != a' comes to bb, however a NaN is widened. -/
def Cmp (a y : Nat) (bb : Bool) : Prop := ∀ r, cw .f64 r = widen (cw .f32 y) → (FloatKind.f64.format.order r a != some .eq) = bb

theorem Is.val {a m : Nat} {e : Int} (h : Is a m e) : val .f64 a = vOf m e := by
  unfold _root_.Go.Proofs.YtjgjgjkffoagoaaDoor.val; rw [h.2.1]; exact h.2.2.2
theorem cmp_inf {a m y : Nat} {e : Int} (h : Is a m e) (hy : finB .f32 y = false) : Cmp a y true := by
  intro r hr
  have hf : ¬ ru FloatKind.f32.format y < FloatKind.f32.format.infRung := by simpa [finB] using hy
  rcases widen_cases hr with ⟨_, h2⟩ | ⟨_, h2, _⟩ | ⟨h1, _⟩
  · rw [order_nan_left .f64 h2]; rfl
  · rw [ord_ne .f64 (by omega) (Nat.le_of_lt h.2.2.1)]
    have h3 := h.2.2.1
    have : key .f64 r ≠ key .f64 a := by
      rw [key_pos .f64 h.2.1]
      unfold key
      split <;> omega
    simpa using this
  · exact absurd h1 hf
theorem cmp_fin {a m y : Nat} {e : Int} (h : Is a m e) (hy : finB .f32 y = true) : Cmp a y (!decide (val .f32 y = vOf m e)) := by
  intro r hr
  have hf : ru FloatKind.f32.format y < FloatKind.f32.format.infRung := by simpa [finB] using hy
  rcases widen_cases hr with ⟨h1, _⟩ | ⟨h1, _⟩ | ⟨_, h2, _, h4⟩
  · omega
  · omega
  · rw [ord_ne .f64 (Nat.le_of_lt h2) (Nat.le_of_lt h.2.2.1)]
    congr 1
    rw [decide_eq_decide, ← key_val_eq, h4, h.val]

theorem mk_cases {a m y : Nat} {e : Int} (h : Is a m e) (hy : Narrow (cw .f64 a) (cw .f32 y)) :
    (mkOk m e = true ∧ y = rungOf FloatKind.f32.format m e ∧ finB .f32 y = true ∧ Cmp a y false) ∨
    (mkOk m e = false ∧ finB .f32 y = false ∧ Cmp a y true) ∨ (mkOk m e = false ∧ finB .f32 y = true ∧ Cmp a y true) := by
  rw [h.cw] at hy
  obtain ⟨n, q, er, ev⟩ := read_fin FloatKind.f64.format h.2.2.1
  rw [h.2.1] at er
  rw [h.2.2.2] at ev
  simp only [Narrow, er] at hy
  rw [rung_congr FloatKind.f32.format ev] at hy
  have hR : FloatKind.f32.format.write (.number false n q) = min (rungOf FloatKind.f32.format m e) FloatKind.f32.format.infRung := by
    rw [write_number, rung_congr FloatKind.f32.format ev]; rfl
  rw [hR] at hy
  have hsw := inf_lt .f32
  rcases Nat.lt_or_ge (rungOf FloatKind.f32.format m e) FloatKind.f32.format.infRung with hlt | hge
  · have hy' := cw_out (hy hlt)
    rw [Nat.min_eq_left (Nat.le_of_lt hlt)] at hy'
    have hru : ru FloatKind.f32.format y = rungOf FloatKind.f32.format m e := by rw [hy']; exact Nat.mod_eq_of_lt (by omega)
    have hsg : sg FloatKind.f32.format y = false := by rw [hy']; unfold sg; rw [Nat.div_eq_of_lt (by omega)]; rfl
    have hfin : finB .f32 y = true := by unfold finB; rw [hru]; simpa using hlt
    have hval : val .f32 y = rval FloatKind.f32.format (rungOf FloatKind.f32.format m e) := by unfold val; rw [hsg, hru]; rfl
    have hc := cmp_fin h hfin
    by_cases hex : rval FloatKind.f32.format (rungOf FloatKind.f32.format m e) = vOf m e
    · left
      refine ⟨by unfold mkOk; simpa using ⟨hlt, hex⟩, hy', hfin, ?_⟩
      rw [hval, hex] at hc; simpa using hc
    · right; right
      refine ⟨by unfold mkOk; simp [hex], hfin, ?_⟩
      rw [hval] at hc; simpa [hex] using hc
  · right
    have hmk : mkOk m e = false := by unfold mkOk; simp; omega
    cases hfin : finB .f32 y
    · left; exact ⟨hmk, rfl, cmp_inf h hfin⟩
    · right
      refine ⟨hmk, rfl, ?_⟩
      have hc := cmp_fin h hfin
      have hne : val .f32 y ≠ vOf m e := by
        intro he
        have hf : ru FloatKind.f32.format y < FloatKind.f32.format.infRung := by simpa [finB] using hfin
        unfold val at he
        cases hs : sg FloatKind.f32.format y
        · rw [hs] at he
          have := rung_of_rval FloatKind.f32.format (show vOf m e = rval FloatKind.f32.format (ru FloatKind.f32.format y) from he.symm)
          omega
        · rw [hs] at he
          have h0 := vOf_nonneg m e
          have h1 := rval_nonneg FloatKind.f32.format (ru FloatKind.f32.format y)
          have h2 : vOf m e = 0 := by have : -rval FloatKind.f32.format (ru FloatKind.f32.format y) = vOf m e := he
                                      grind
          rw [rung_zero _ h2] at hge
          have := inf_pos .f32
          omega
      simpa [hne] using hc

theorem mk_bools {a m y : Nat} {e : Int} (h : Is a m e) (hy : Narrow (cw .f64 a) (cw .f32 y)) :
    ∃ f c, Hid (finB .f32 y = f ∧ Cmp a y c ∧ ((mkOk m e = true ∧ y = rungOf FloatKind.f32.format m e ∧ f = true ∧ c = false) ∨ (mkOk m e = false ∧ c = true))) := by
  rcases mk_cases h hy with ⟨k1, k2, k3, k4⟩ | ⟨k1, k3, k4⟩ | ⟨k1, k3, k4⟩
  · exact ⟨true, false, Lib.hid ⟨k3, k4, .inl ⟨k1, k2, rfl, rfl⟩⟩⟩
  · exact ⟨false, true, Lib.hid ⟨k3, k4, .inr ⟨k1, rfl⟩⟩⟩
  · exact ⟨true, true, Lib.hid ⟨k3, k4, .inr ⟨k1, rfl⟩⟩⟩

/-- What MakeSingle answers. -/
def makeF (s : List UInt8) (m e : Int) : Nat × Bool :=
  if (s == [43] || s == [45]) && (decide (0 ≤ m) && decide (m ≤ 16777215)) && (decide (-149 ≤ e) && decide (e ≤ 127)) && mkOk m.toNat e then signedF s (rungOf FloatKind.f32.format m.toNat e) else (0, false)

theorem Is.of_zero (e : Int) : Is 0 0 e := ⟨by decide, by decide, by rw [ru_zero]; exact inf_pos .f64, by rw [ru_zero, rval_zero, vOf_zero]⟩
theorem ldexp0_any (e : Int) (w : World) :
    Calls Tryd.prog 94 #[.float .f64 0, .int .i64 e] w fun en w' => en = .returned (.float .f64 0) ∧ w' = w := by
  have hz : (FloatKind.f64.format.order 0 0 == some .eq) = true := by rw [(Is.of_zero 0).eq0]; rfl
  go_enter Tryd.func94, Tryd.ntmps94
  go_wp2
  go_ret
  exact ⟨rfl, rfl⟩
/-- An ending with a double of just this number. -/
def LdEnd (m : Nat) (e : Int) (w : World) (en : Ending) (w' : World) : Prop := ∃ r, en = .returned (.float .f64 r) ∧ Is r m e ∧ ∃ n, w' = w.drewN n
theorem ldexp_all (b m : Nat) (e : Int) (w : World) (h : Is b m 0) (hm : m < 2 ^ 24) (h1 : -149 ≤ e) (h2 : e ≤ 127) :
    Calls Tryd.prog 94 #[.float .f64 b, .int .i64 e] w (LdEnd m e w) := by
  rcases Nat.eq_zero_or_pos m with h0 | h0
  · subst h0
    rw [h.zero]
    exact (ldexp0_any e w).mono fun en w' ⟨he, hw⟩ => ⟨0, he, Is.of_zero e, 0, hw⟩
  · exact ldexp_any b m e w h h0 hm h1 h2
theorem Ldexp_any (b m : Nat) (e : Int) (w : World) (h : Is b m 0) (hm : m < 2 ^ 24) (h1 : -149 ≤ e) (h2 : e ≤ 127) :
    Calls Tryd.prog 78 #[.float .f64 b, .int .i64 e] w (LdEnd m e w) := by
  have H := Lib.hid h
  have HM := Lib.hid hm
  clear h hm
  go_enter Tryd.func78, Tryd.ntmps78
  go_wp2_with (go_at_call 94; (with_reducible refine (ldexp_all _ _ _ _ H.out HM.out h1 h2).mono ?_); rintro en w' ⟨r, rfl, hr, n, rfl⟩; have HR := Lib.hid hr; clear hr)
  go_ret
  exact ⟨r, rfl, HR.out, n, rfl⟩

theorem l01In_any (x a b : Int) (w : World) :
    Calls Tryd.prog 48 #[.int .i64 x, .int .i64 a, .int .i64 b] w fun e w' => e = .returned (.bool (decide (a ≤ x) && decide (x ≤ b))) ∧ w' = w := by
  by_cases h1 : a ≤ x <;> by_cases h2 : x ≤ b
  all_goals
    go_enter Tryd.func48, Tryd.ntmps48
    go_wp2
    go_ret
    first | exact ⟨by simp [h1, h2], rfl⟩ | exact ⟨by simp [h1], rfl⟩
theorem within_any (x a b : Int) (w : World) :
    Calls Tryd.prog 39 #[.int .i64 x, .int .i64 a, .int .i64 b] w fun e w' => e = .returned (.bool (decide (a ≤ x) && decide (x ≤ b))) ∧ w' = w := by
  by_cases h1 : a ≤ x <;> by_cases h2 : x ≤ b
  all_goals
    go_enter Tryd.func39, Tryd.ntmps39
    go_wp2
    go_ret
    first | exact ⟨by simp [h1, h2], rfl⟩ | exact ⟨by simp [h1], rfl⟩
/-- The same where the answer is known. -/
theorem within_is (x a b : Int) (bb : Bool) (w : World) (h : (decide (a ≤ x) && decide (x ≤ b)) = bb) :
    Calls Tryd.prog 39 #[.int .i64 x, .int .i64 a, .int .i64 b] w fun e w' => e = .returned (.bool bb) ∧ w' = w := h ▸ within_any x a b w
theorem l01In_is (x a b : Int) (bb : Bool) (w : World) (h : (decide (a ≤ x) && decide (x ≤ b)) = bb) :
    Calls Tryd.prog 48 #[.int .i64 x, .int .i64 a, .int .i64 b] w fun e w' => e = .returned (.bool bb) ∧ w' = w := h ▸ l01In_any x a b w
theorem finiteSingle_is (b : Nat) (bb : Bool) (w : World) (h : finB .f32 b = bb) :
    Calls Tryd.prog 76 #[.float .f32 b] w fun e w' => e = .returned (.bool bb) ∧ ∃ n, w' = w.drewN n := h ▸ finiteSingle_any b w

def MkEnd (v : Nat × Bool) (w : World) (en : Ending) (w' : World) : Prop := en = .returned (.tuple #[.float .f32 v.1, .bool v.2]) ∧ ∃ n, w' = w.drewN n

set_option maxRecDepth 100000 in
set_option maxHeartbeats 4000000 in
theorem makeI_any (s : ByteArray) (m e : Int) (w : World) :
    Calls Tryd.prog 106 #[.string s, .int .i64 m, .int .i64 e] w (MkEnd (makeF s.toList m e) w) := by
  cases h0 : (s.toList == [43] || s.toList == [45])
  · have HF : Hid (makeF s.toList m e = (0, false)) := Lib.hid (by unfold makeF; rw [h0]; rfl)
    rw [Bool.or_eq_false_iff] at h0
    obtain ⟨ha, hb⟩ := h0
    have ha' : (!(s.toList == [43])) = true := by rw [ha]; rfl
    have hb' : (!(s.toList == [45])) = true := by rw [hb]; rfl
    go_enter Tryd.func106, Tryd.ntmps106
    go_wp2
    go_ret2
    exact ⟨by rw [HF.out]; rfl, 0, rfl⟩
  · have hs : (s.toList == [43]) = true ∨ ((s.toList == [43]) = false ∧ (s.toList == [45]) = true) := by
      rw [Bool.or_eq_true] at h0
      cases h : s.toList == [43]
      · right; rw [h] at h0; simpa using h0
      · exact .inl rfl
    cases hm : (decide (0 ≤ m) && decide (m ≤ 16777215))
    · have HF : Hid (makeF s.toList m e = (0, false)) := Lib.hid (by unfold makeF; rw [h0, hm]; rfl)
      have HM := Lib.hid hm
      clear hm h0
      rcases hs with ha | ⟨ha, hb⟩
      all_goals
        go_enter Tryd.func106, Tryd.ntmps106
        go_wp2_with (go_at_call 39; (with_reducible refine (within_is _ _ _ _ _ HM.out).mono ?_); rintro e w9 ⟨rfl, hw9⟩; have hw9x := hw9.symm; clear hw9; subst hw9x)
        go_ret2
        exact ⟨by rw [HF.out]; rfl, 0, rfl⟩
    · cases he : (decide (-149 ≤ e) && decide (e ≤ 127))
      · have HF : Hid (makeF s.toList m e = (0, false)) := Lib.hid (by unfold makeF; rw [h0, hm, he]; rfl)
        have HM := Lib.hid hm
        have HE := Lib.hid he
        clear hm he h0
        rcases hs with ha | ⟨ha, hb⟩
        all_goals
          go_enter Tryd.func106, Tryd.ntmps106
          go_wp2_with (first | (go_at_call 39; (with_reducible refine (within_is m _ _ _ _ HM.out).mono ?_); rintro e w9 ⟨rfl, hw9⟩; have hw9x := hw9.symm; clear hw9; subst hw9x) | (go_at_call 39; (with_reducible refine (within_is e _ _ _ _ HE.out).mono ?_); rintro e w9 ⟨rfl, hw9⟩; have hw9x := hw9.symm; clear hw9; subst hw9x))
          go_ret2
          exact ⟨by rw [HF.out]; rfl, 0, rfl⟩
      · have HF : Hid (makeF s.toList m e = if mkOk m.toNat e then signedF s.toList (rungOf FloatKind.f32.format m.toNat e) else (0, false)) := Lib.hid (by unfold makeF; rw [h0, hm, he]; rfl)
        have hm2 : 0 ≤ m ∧ m ≤ 16777215 := by simpa using hm
        have he2 : -149 ≤ e ∧ e ≤ 127 := by simpa using he
        have HM := Lib.hid hm
        have HE := Lib.hid he
        obtain ⟨n, hn⟩ : ∃ n : Nat, m = (n : Int) := ⟨m.toNat, by omega⟩
        have HS := Lib.hid h0
        subst hn
        rw [Int.toNat_natCast] at HF
        have HI := Lib.hid (Is.ofNat (m := n) (by omega))
        have HN : Hid (n < 2 ^ 24) := Lib.hid (by omega)
        obtain ⟨e1, e2⟩ := he2
        clear hm he h0 hm2
        rcases hs with ha | ⟨ha, hb⟩
        all_goals
          go_enter Tryd.func106, Tryd.ntmps106
          go_wp2_with (first | (go_at_call 39; (with_reducible refine (within_is (n : Int) _ _ _ _ HM.out).mono ?_); rintro e w9 ⟨rfl, hw9⟩; have hw9x := hw9.symm; clear hw9; subst hw9x) | (go_at_call 39; (with_reducible refine (within_is e _ _ _ _ HE.out).mono ?_); rintro e w9 ⟨rfl, hw9⟩; have hw9x := hw9.symm; clear hw9; subst hw9x) | (go_at_call 78; (with_reducible refine (Ldexp_any _ _ _ _ HI.out HN.out e1 e2).mono ?_); rintro en w' ⟨r, rfl, hr, n1, rfl⟩; have HR := Lib.hid hr; clear hr) | (refine wpl_narrow 31 Tryd.underlying65 Tryd.underlying73 rfl rfl rfl rfl ?_; intro y n2 hy; obtain ⟨f, c, K⟩ := mk_bools HR.out hy.out.1; cases f <;> cases c) | (go_at_call 76; (with_reducible refine (finiteSingle_is _ _ _ K.out.1).mono ?_); rintro e w8 ⟨rfl, m8, rfl⟩) | (refine wpl_widen 37 Tryd.underlying73 Tryd.underlying65 rfl rfl rfl rfl ?_; intro r2 n3 hr2; have hcmp := K.out.2.1 r2 hr2.out.1) | (go_at_call 102; (with_reducible refine (signedI_any _ _ _).mono ?_); rintro e w9 ⟨rfl, hw9⟩; have hw9x := hw9.symm; clear hw9; subst hw9x))
          all_goals
            go_ret2
            rcases K.out.2.2 with ⟨k1, k2, k3, k4⟩ | ⟨k1, k4⟩
            · first
              | (cases k3; done)
              | (cases k4; done)
              | exact ⟨by rw [HF.out, k1, ← k2]; rfl, _, rfl⟩
            · first
              | (cases k4; done)
              | exact ⟨by rw [HF.out, k1]; rfl, _, rfl⟩

set_option maxRecDepth 100000 in
set_option maxHeartbeats 4000000 in
theorem makeS_any (s : ByteArray) (m e : Int) (w : World) :
    Calls Tryd.prog 53 #[.string s, .int .i64 m, .int .i64 e] w (MkEnd (makeF s.toList m e) w) := by
  cases h0 : (s.toList == [43] || s.toList == [45])
  · have HF : Hid (makeF s.toList m e = (0, false)) := Lib.hid (by unfold makeF; rw [h0]; rfl)
    rw [Bool.or_eq_false_iff] at h0
    obtain ⟨ha, hb⟩ := h0
    have ha' : (!(s.toList == [43])) = true := by rw [ha]; rfl
    have hb' : (!(s.toList == [45])) = true := by rw [hb]; rfl
    go_enter Tryd.func53, Tryd.ntmps53
    go_wp2
    go_ret2
    exact ⟨by rw [HF.out]; rfl, 0, rfl⟩
  · have hs : (s.toList == [43]) = true ∨ ((s.toList == [43]) = false ∧ (s.toList == [45]) = true) := by
      rw [Bool.or_eq_true] at h0
      cases h : s.toList == [43]
      · right; rw [h] at h0; simpa using h0
      · exact .inl rfl
    cases hm : (decide (0 ≤ m) && decide (m ≤ 16777215))
    · have HF : Hid (makeF s.toList m e = (0, false)) := Lib.hid (by unfold makeF; rw [h0, hm]; rfl)
      have HM := Lib.hid hm
      clear hm h0
      rcases hs with ha | ⟨ha, hb⟩
      all_goals
        go_enter Tryd.func53, Tryd.ntmps53
        go_wp2_with (go_at_call 48; (with_reducible refine (l01In_is _ _ _ _ _ HM.out).mono ?_); rintro e w9 ⟨rfl, hw9⟩; have hw9x := hw9.symm; clear hw9; subst hw9x)
        go_ret2
        exact ⟨by rw [HF.out]; rfl, 0, rfl⟩
    · cases he : (decide (-149 ≤ e) && decide (e ≤ 127))
      · have HF : Hid (makeF s.toList m e = (0, false)) := Lib.hid (by unfold makeF; rw [h0, hm, he]; rfl)
        have HM := Lib.hid hm
        have HE := Lib.hid he
        clear hm he h0
        rcases hs with ha | ⟨ha, hb⟩
        all_goals
          go_enter Tryd.func53, Tryd.ntmps53
          go_wp2_with (first | (go_at_call 48; (with_reducible refine (l01In_is m _ _ _ _ HM.out).mono ?_); rintro e w9 ⟨rfl, hw9⟩; have hw9x := hw9.symm; clear hw9; subst hw9x) | (go_at_call 48; (with_reducible refine (l01In_is e _ _ _ _ HE.out).mono ?_); rintro e w9 ⟨rfl, hw9⟩; have hw9x := hw9.symm; clear hw9; subst hw9x))
          go_ret2
          exact ⟨by rw [HF.out]; rfl, 0, rfl⟩
      · have HF : Hid (makeF s.toList m e = if mkOk m.toNat e then signedF s.toList (rungOf FloatKind.f32.format m.toNat e) else (0, false)) := Lib.hid (by unfold makeF; rw [h0, hm, he]; rfl)
        have hm2 : 0 ≤ m ∧ m ≤ 16777215 := by simpa using hm
        have he2 : -149 ≤ e ∧ e ≤ 127 := by simpa using he
        have HM := Lib.hid hm
        have HE := Lib.hid he
        obtain ⟨n, hn⟩ : ∃ n : Nat, m = (n : Int) := ⟨m.toNat, by omega⟩
        have HS := Lib.hid h0
        subst hn
        rw [Int.toNat_natCast] at HF
        have HI := Lib.hid (Is.ofNat (m := n) (by omega))
        have HN : Hid (n < 2 ^ 24) := Lib.hid (by omega)
        obtain ⟨e1, e2⟩ := he2
        have HV : Hid (∀ y, (signedF s.toList y).2 = true) := Lib.hid (by intro y; unfold signedF; rcases hs with h | ⟨h1, h2⟩
                                                                          · rw [h]; rfl
                                                                          · rw [h1, h2]; rfl)
        clear hm he h0 hm2
        rcases hs with ha | ⟨ha, hb⟩
        all_goals
          go_enter Tryd.func53, Tryd.ntmps53
          go_wp2_with (first | (go_at_call 48; (with_reducible refine (l01In_is (n : Int) _ _ _ _ HM.out).mono ?_); rintro e w9 ⟨rfl, hw9⟩; have hw9x := hw9.symm; clear hw9; subst hw9x) | (go_at_call 48; (with_reducible refine (l01In_is e _ _ _ _ HE.out).mono ?_); rintro e w9 ⟨rfl, hw9⟩; have hw9x := hw9.symm; clear hw9; subst hw9x))
          go_loopw [8, 9] (fun a i wr => ∃ (k b q : Nat), ((k : Int) ≤ e ∨ k = 0) ∧ i = .int .i64 k ∧ a = .float .f64 b ∧ Is b n k ∧ wr = w.drewN q) (fun _ i _ => (e - intOf i).toNat)
          case atStart => exact ⟨0, _, 0, .inr rfl, rfl, rfl, HI.out, rfl⟩
          case round =>
            obtain ⟨k, b, q, hk, rfl, rfl, hb, rfl⟩ := hrel
            have HB := Lib.hid hb
            have HQ := Lib.hid hk
            have hk0 : (k : Int) ≤ 127 := by omega
            clear hb hk
            by_cases hlt : (k : Int) < e
            · go_wp2_with (refine wpl_farith 38 rfl rfl rfl rfl rfl rfl ?_; intro r1 n1 hr1)
              go_roundw
              case rel => exact ⟨k + 1, r1, _, .inl (by omega), by go_num, rfl, HB.out.dbl (by have := HN.out; omega) (by omega) (by omega) hr1.out.1, rfl⟩
              case measure => simp [intOf]; omega
            · go_wp2
              go_loopw [8, 10] (fun a i wr => ∃ (j b q : Nat), (j = 0 ∨ e ≤ -(j : Int)) ∧ i = .int .i64 (-(j : Int)) ∧ a = .float .f64 b ∧ Is b n ((k : Int) - j) ∧ wr = w.drewN q) (fun _ i _ => (intOf i - e).toNat)
              case atStart => exact ⟨0, _, _, .inl rfl, rfl, rfl, HB.out, rfl⟩
              case round =>
                obtain ⟨j, b', q', hj, rfl, rfl, hb', rfl⟩ := hrel
                have HB' := Lib.hid hb'
                have HJ := Lib.hid hj
                have hj0 : (j : Int) ≤ 149 := by omega
                clear hb' hj
                by_cases hgt : e < -(j : Int)
                · go_wp2_with (refine wpl_farith 45 rfl rfl rfl rfl rfl rfl ?_; intro r1 n1 hr1)
                  go_roundw
                  case rel =>
                    have := HQ.out
                    exact ⟨j + 1, r1, _, .inr (by omega), by congr 1; omega, rfl, by have h9 := HB'.out.half (by have := HN.out; omega) (by omega) (by omega) hr1.out.1; rwa [show (k : Int) - ((j + 1 : Nat) : Int) = (k : Int) - j - 1 by omega], rfl⟩
                  case measure => simp [intOf]; omega
                · have hke : (k : Int) - j = e := by
                    have h1 := HQ.out
                    have h2 := HJ.out
                    omega
                  have HR := Lib.hid (hke ▸ HB'.out)
                  clear hke
                  go_wp2_with (first | (refine wpl_narrow 47 Tryd.underlying65 Tryd.underlying73 rfl rfl rfl rfl ?_; intro y n2 hy; obtain ⟨f, c, K⟩ := mk_bools HR.out hy.out.1; cases f <;> cases c) | (refine wpl_widen 49 Tryd.underlying73 Tryd.underlying65 rfl rfl rfl rfl ?_; intro r2 n3 hr2; have hcmp := K.out.2.1 r2 hr2.out.1) | (go_at_call 72; (with_reducible refine (signedS_any _ _ _).mono ?_); rintro e w9 ⟨rfl, hw9⟩; have hw9x := hw9.symm; clear hw9; subst hw9x))
                  all_goals
                    go_ret2
                    rcases K.out.2.2 with ⟨k1, k2, k3, k4⟩ | ⟨k1, k4⟩
                    · first
                      | (cases k3; done)
                      | (cases k4; done)
                      | exact ⟨by rw [HF.out, k1, ← k2, if_pos rfl, HV.out]; rfl, _, rfl⟩
                    · first
                      | (cases k4; done)
                      | exact ⟨by rw [HF.out, k1]; rfl, _, rfl⟩
end Go.Proofs.YtjgjgjkffoagoaaDoor
