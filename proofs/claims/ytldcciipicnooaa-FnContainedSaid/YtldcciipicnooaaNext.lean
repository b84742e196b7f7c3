/- The next single up and down, of the program. -/
import Derived.Test.YtldcciipicnooaaPart
namespace Go.Proofs.Ytldcciipicnooaa
open Go.RowKit
attribute [local go_sem] run_neg_float run_neg_complex

theorem f32bits (b : Nat) (w : World) : (callFunc 81 #[.float .f32 b]).run Try.prog w = .ok (.value (.int .u32 b)) w := by kernel_rfl
theorem f32from (b : Int) (w : World) : (callFunc 80 #[.int .u32 b]).run Try.prog w = .ok (.value (.float .f32 b.toNat)) w := by kernel_rfl

/-- What the next single up may be. -/
def NuR (x y : Nat) : Prop :=
  (FloatKind.f32.format.infRung < ru FloatKind.f32.format x ∧ FloatKind.f32.format.infRung < ru FloatKind.f32.format y) ∨ (x = 2139095040 ∧ y = 2139095040) ∨
  (ru FloatKind.f32.format x ≤ FloatKind.f32.format.infRung ∧ x ≠ 2139095040 ∧ ru FloatKind.f32.format y ≤ FloatKind.f32.format.infRung ∧ key .f32 y = key .f32 x + 1)

theorem word_cases {x : Nat} (hx : x < 2 ^ 32) : (sg FloatKind.f32.format x = false ∧ x = ru FloatKind.f32.format x) ∨ (sg FloatKind.f32.format x = true ∧ x = 2147483648 + ru FloatKind.f32.format x) := by
  have h := word_sg_ru FloatKind.f32.format (b := x) hx
  unfold Ieee.Format.word at h
  rw [s32] at h
  cases hs : sg FloatKind.f32.format x
  · left; rw [hs] at h; refine ⟨rfl, ?_⟩; simpa using h.symm
  · right; rw [hs] at h; refine ⟨rfl, ?_⟩; simpa using h.symm
theorem ru_lit {r : Nat} (h : r < 2147483648) : ru FloatKind.f32.format r = r ∧ sg FloatKind.f32.format r = false := by
  constructor
  · unfold ru; rw [s32]; exact Nat.mod_eq_of_lt h
  · unfold sg; rw [s32, Nat.div_eq_of_lt h]; rfl
theorem ru_lit' {r : Nat} (h : r < 2147483648) : ru FloatKind.f32.format (2147483648 + r) = r ∧ sg FloatKind.f32.format (2147483648 + r) = true := by
  constructor
  · unfold ru; rw [s32, Nat.add_mod_left]; exact Nat.mod_eq_of_lt h
  · unfold sg; rw [s32, Nat.add_div_left _ (by decide), Nat.div_eq_of_lt h]; rfl

theorem inf_narrow {r : Nat} (h : Narrow (cw .f64 9218868437227405312) (cw .f32 r)) : r = 2139095040 := by
  have e : cw .f64 9218868437227405312 = some 9218868437227405312 := by decide
  rw [e] at h
  have e2 : FloatKind.f64.format.read 9218868437227405312 = .infinity false := by decide
  simp only [Narrow, e2] at h
  exact cw_out h
theorem nan_narrow {b r : Nat} (hb : FloatKind.f64.format.infRung < ru FloatKind.f64.format b) (h : Narrow (cw .f64 b) (cw .f32 r)) : FloatKind.f32.format.infRung < ru FloatKind.f32.format r := by
  rw [cw_none .f64 hb] at h
  simp only [Narrow] at h
  rcases cw_cases .f32 r with ⟨_, h3⟩ | ⟨h3, _⟩
  · exact h3
  · rw [h3] at h; cases h

def NxEnd (x : Nat) (w : World) (en : Ending) (w' : World) : Prop := ∃ y n, en = .returned (.float .f32 y) ∧ y < 2 ^ 32 ∧ NuR x y ∧ w' = w.drewN n

theorem least_narrow {r : Nat} (h : Narrow (cw .f64 3936146074321813504) (cw .f32 r)) : r = 1 := by
  have e : cw .f64 3936146074321813504 = some 3936146074321813504 := by decide +kernel
  rw [e] at h
  have e2 : FloatKind.f64.format.read 3936146074321813504 = .number false 4503599627370496 (-201) := by decide +kernel
  simp only [Narrow, e2] at h
  have e3 : rungOf FloatKind.f32.format 4503599627370496 (-201) < FloatKind.f32.format.infRung := by decide +kernel
  have h2 := cw_out (h e3)
  rw [h2]
  decide +kernel
theorem inf_any (w : World) : Calls Try.prog 54 #[.int .i64 1] w fun e w' => e = .returned (.float .f64 9218868437227405312) ∧ w' = w := by
  have h2 := fun c => run_f64from c
  go_enter Try.func54, Try.ntmps54
  go_wp2
  go_ret
  exact ⟨rfl, rfl⟩
theorem nanC_any (w : World) : Calls Try.prog 78 #[] w fun e w' => e = .returned (.float .f64 9221120237041090561) ∧ w' = w := by
  have h2 := fun c => run_f64from c
  go_enter Try.func78, Try.ntmps78
  go_wp2
  go_ret
  exact ⟨rfl, rfl⟩
theorem copysign_any (w : World) : Calls Try.prog 79 #[.float .f64 3936146074321813504, .float .f64 9218868437227405312] w fun e w' => e = .returned (.float .f64 3936146074321813504) ∧ w' = w := by
  have h1 := run_f64bits
  have h2 := fun c => run_f64from c
  go_enter Try.func79, Try.ntmps79
  go_wp2
  go_ret
  exact ⟨congrArg (fun x => Ending.returned (Value.float .f64 x)) (by decide +kernel), rfl⟩

set_option maxRecDepth 100000 in
theorem nextafter_nan (x : Nat) (w : World) (h : FloatKind.f32.format.infRung < ru FloatKind.f32.format x) :
    Calls Try.prog 53 #[.float .f32 x, .float .f32 2139095040] w fun e w' => ∃ y n, e = .returned (.float .f32 y) ∧ y < 2 ^ 32 ∧ FloatKind.f32.format.infRung < ru FloatKind.f32.format y ∧ w' = w.drewN n := by
  have H := Lib.hid h
  clear h
  go_enter Try.func53, Try.ntmps53
  go_wp2_with (first | (refine wpl_widen 11 Try.underlying24 Try.underlying39 rfl rfl rfl rfl ?_; intro r1 n1 hr1; have HN : Hid (decide (FloatKind.f64.format.infRung < ru FloatKind.f64.format r1) = true) := Lib.hid (by rcases widen_cases hr1.out.1 with ⟨_, h2⟩ | ⟨h1, _⟩ | ⟨h1, _⟩ <;> first | exact decide_eq_true h2 | (have := H.out; omega))) | (go_at_call 77; (with_reducible refine (isNaN_any _ _).mono ?_); rw [HN.out]; rintro e w1 ⟨rfl, hw9⟩; have hw9x := hw9.symm; clear hw9; subst hw9x) | (go_at_call 78; (with_reducible refine (nanC_any _).mono ?_); rintro e w1 ⟨rfl, hw9⟩; have hw9x := hw9.symm; clear hw9; subst hw9x) | (refine wpl_narrow 19 Try.underlying39 Try.underlying24 rfl rfl rfl rfl ?_; intro r2 n2 hr2))
  go_ret
  exact ⟨_, _, rfl, hr2.out.2, nan_narrow (by decide) hr2.out.1, rfl⟩

theorem inf_le : ru FloatKind.f32.format 2139095040 ≤ FloatKind.f32.format.infRung := by decide
theorem nan_no {x r : Nat} (h : ru FloatKind.f32.format x ≤ FloatKind.f32.format.infRung) (hr : cw .f64 r = widen (cw .f32 x)) : decide (FloatKind.f64.format.infRung < ru FloatKind.f64.format r) = false := by
  rcases widen_cases hr with ⟨h2, _⟩ | ⟨_, h1, _⟩ | ⟨_, h1, _⟩
  · omega
  · exact decide_eq_false (by omega)
  · exact decide_eq_false (by omega)

set_option maxRecDepth 100000 in
theorem nextafter_inf (w : World) :
    Calls Try.prog 53 #[.float .f32 2139095040, .float .f32 2139095040] w fun e w' => e = .returned (.float .f32 2139095040) ∧ ∃ n, w' = w.drewN n := by
  have H := Lib.hid inf_le
  have ho : (FloatKind.f32.format.order 2139095040 2139095040 == some .eq) = true := by decide
  go_enter Try.func53, Try.ntmps53
  go_wp2_with (first | (refine wpl_widen 11 Try.underlying24 Try.underlying39 rfl rfl rfl rfl ?_; intro r1 n1 hr1; have HN : Hid (decide (FloatKind.f64.format.infRung < ru FloatKind.f64.format r1) = false) := Lib.hid (nan_no H.out hr1.out.1)) | (refine wpl_widen 15 Try.underlying24 Try.underlying39 rfl rfl rfl rfl ?_; intro r1 n1 hr1; have HN : Hid (decide (FloatKind.f64.format.infRung < ru FloatKind.f64.format r1) = false) := Lib.hid (nan_no inf_le hr1.out.1)) | (go_at_call 77; (with_reducible refine (isNaN_any _ _).mono ?_); rw [HN.out]; rintro e w1 ⟨rfl, hw9⟩; have hw9x := hw9.symm; clear hw9; subst hw9x; clear HN))
  go_ret
  exact ⟨rfl, _, rfl⟩

set_option maxRecDepth 100000 in
theorem nextafter_zero (x : Nat) (w : World) (h : ru FloatKind.f32.format x = 0) :
    Calls Try.prog 53 #[.float .f32 x, .float .f32 2139095040] w fun e w' => e = .returned (.float .f32 1) ∧ ∃ n, w' = w.drewN n := by
  have hle : ru FloatKind.f32.format x ≤ FloatKind.f32.format.infRung := by omega
  have k1 : key .f32 x = 0 := key_zero .f32 h
  have k2 : key .f32 2139095040 = 2139095040 := by decide
  have k3 : key .f32 0 = 0 := by decide
  have ho : (FloatKind.f32.format.order x 2139095040 == some .eq) = false := by rw [ord_eq .f32 hle inf_le, k1, k2]; decide
  have hz : (FloatKind.f32.format.order x 0 == some .eq) = true := by rw [ord_eq .f32 hle (by decide), k1, k3]; decide
  have H := Lib.hid hle
  clear h hle k1 k2 k3
  have h80 := fun c => f32from c
  go_enter Try.func53, Try.ntmps53
  go_wp2_with (first | (refine wpl_widen 11 Try.underlying24 Try.underlying39 rfl rfl rfl rfl ?_; intro r1 n1 hr1; have HN : Hid (decide (FloatKind.f64.format.infRung < ru FloatKind.f64.format r1) = false) := Lib.hid (nan_no H.out hr1.out.1)) | (refine wpl_widen 15 Try.underlying24 Try.underlying39 rfl rfl rfl rfl ?_; intro r1 n1 hr1; have HN : Hid (decide (FloatKind.f64.format.infRung < ru FloatKind.f64.format r1) = false) := Lib.hid (nan_no inf_le hr1.out.1)) | (go_at_call 77; (with_reducible refine (isNaN_any _ _).mono ?_); rw [HN.out]; rintro e w1 ⟨rfl, hw9⟩; have hw9x := hw9.symm; clear hw9; subst hw9x; clear HN) | (refine wpl_widen 29 Try.underlying24 Try.underlying39 rfl rfl rfl rfl ?_; intro r3 n3 hr3; obtain rfl : r3 = 3936146074321813504 := cw_out (hr3.out.1.trans (by decide +kernel))) | (refine wpl_widen 31 Try.underlying24 Try.underlying39 rfl rfl rfl rfl ?_; intro r4 n4 hr4; obtain rfl : r4 = 9218868437227405312 := cw_out (hr4.out.1.trans (by decide +kernel))) | (go_at_call 79; (with_reducible refine (copysign_any _).mono ?_); rintro e w1 ⟨rfl, hw9⟩; have hw9x := hw9.symm; clear hw9; subst hw9x) | (refine wpl_narrow 33 Try.underlying39 Try.underlying24 rfl rfl rfl rfl ?_; intro r5 n5 hr5; obtain rfl : r5 = 1 := least_narrow hr5.out.1))
  go_ret
  exact ⟨rfl, _, rfl⟩

set_option maxRecDepth 100000 in
theorem nextafter_up (x : Nat) (w : World) (h : 0 < x) (h2 : x < 2139095040) :
    Calls Try.prog 53 #[.float .f32 x, .float .f32 2139095040] w fun e w' => e = .returned (.float .f32 (x + 1)) ∧ ∃ n, w' = w.drewN n := by
  obtain ⟨a1, a2⟩ := ru_lit (r := x) (by omega)
  have hle : ru FloatKind.f32.format x ≤ FloatKind.f32.format.infRung := by rw [a1, i32]; omega
  have k1 : key .f32 x = x := by unfold key; rw [a1, a2]; rfl
  have k2 : key .f32 2139095040 = 2139095040 := by decide
  have k3 : key .f32 0 = 0 := by decide
  have ho : (FloatKind.f32.format.order x 2139095040 == some .eq) = false := by rw [ord_eq .f32 hle inf_le, k1, k2]; exact decide_eq_false (by omega)
  have hz : (FloatKind.f32.format.order x 0 == some .eq) = false := by rw [ord_eq .f32 hle (by decide), k1, k3]; exact decide_eq_false (by omega)
  have hg : (FloatKind.f32.format.order 2139095040 x == some .gt) = true := by rw [ord_gt .f32 inf_le hle, k1, k2]; exact decide_eq_true (by omega)
  have hg0 : (FloatKind.f32.format.order x 0 == some .gt) = true := by rw [ord_gt .f32 hle (by decide), k1, k3]; exact decide_eq_true (by omega)
  have H := Lib.hid hle
  have hb1 : 0 ≤ (x : Int) := by omega
  have hb2 : (x : Int) ≤ 4294967200 := by omega
  clear h h2 hle k1 k2 k3 a1 a2
  have h80 := fun c => f32from c
  have h81 := f32bits
  go_enter Try.func53, Try.ntmps53
  go_wp2_with (first | (refine wpl_widen 11 Try.underlying24 Try.underlying39 rfl rfl rfl rfl ?_; intro r1 n1 hr1; have HN : Hid (decide (FloatKind.f64.format.infRung < ru FloatKind.f64.format r1) = false) := Lib.hid (nan_no H.out hr1.out.1)) | (refine wpl_widen 15 Try.underlying24 Try.underlying39 rfl rfl rfl rfl ?_; intro r1 n1 hr1; have HN : Hid (decide (FloatKind.f64.format.infRung < ru FloatKind.f64.format r1) = false) := Lib.hid (nan_no inf_le hr1.out.1)) | (go_at_call 77; (with_reducible refine (isNaN_any _ _).mono ?_); rw [HN.out]; rintro e w1 ⟨rfl, hw9⟩; have hw9x := hw9.symm; clear hw9; subst hw9x; clear HN))
  go_ret
  refine ⟨congrArg (fun x => Ending.returned (Value.float .f32 x)) ?_, _, rfl⟩
  first | omega | simp

set_option maxRecDepth 100000 in
theorem nextafter_down (x : Nat) (w : World) (h : 2147483648 < x) (h2 : x ≤ 2147483648 + 2139095040) :
    Calls Try.prog 53 #[.float .f32 x, .float .f32 2139095040] w fun e w' => e = .returned (.float .f32 (x - 1)) ∧ ∃ n, w' = w.drewN n := by
  obtain ⟨r, rfl⟩ : ∃ r, x = 2147483648 + r := ⟨x - 2147483648, by omega⟩
  obtain ⟨a1, a2⟩ := ru_lit' (r := r) (by omega)
  generalize hx : 2147483648 + r = x at *
  have hle : ru FloatKind.f32.format x ≤ FloatKind.f32.format.infRung := by rw [a1, i32]; omega
  have k1 : key .f32 x = -(r : Int) := by unfold key; rw [a1, a2]; rfl
  have k2 : key .f32 2139095040 = 2139095040 := by decide
  have k3 : key .f32 0 = 0 := by decide
  have ho : (FloatKind.f32.format.order x 2139095040 == some .eq) = false := by rw [ord_eq .f32 hle inf_le, k1, k2]; exact decide_eq_false (by omega)
  have hz : (FloatKind.f32.format.order x 0 == some .eq) = false := by rw [ord_eq .f32 hle (by decide), k1, k3]; exact decide_eq_false (by omega)
  have hg : (FloatKind.f32.format.order 2139095040 x == some .gt) = true := by rw [ord_gt .f32 inf_le hle, k1, k2]; exact decide_eq_true (by omega)
  have hg0 : (FloatKind.f32.format.order x 0 == some .gt) = false := by rw [ord_gt .f32 hle (by decide), k1, k3]; exact decide_eq_false (by omega)
  have H := Lib.hid hle
  have hb1 : 1 ≤ (x : Int) := by omega
  have hb2 : (x : Int) ≤ 4294967200 := by omega
  have hb3 : 0 ≤ (x : Int) - 1 := by omega
  clear h h2 hle k1 k2 k3 a1 a2 hx
  have h80 := fun c => f32from c
  have h81 := f32bits
  go_enter Try.func53, Try.ntmps53
  go_wp2_with (first | (refine wpl_widen 11 Try.underlying24 Try.underlying39 rfl rfl rfl rfl ?_; intro r1 n1 hr1; have HN : Hid (decide (FloatKind.f64.format.infRung < ru FloatKind.f64.format r1) = false) := Lib.hid (nan_no H.out hr1.out.1)) | (refine wpl_widen 15 Try.underlying24 Try.underlying39 rfl rfl rfl rfl ?_; intro r1 n1 hr1; have HN : Hid (decide (FloatKind.f64.format.infRung < ru FloatKind.f64.format r1) = false) := Lib.hid (nan_no inf_le hr1.out.1)) | (go_at_call 77; (with_reducible refine (isNaN_any _ _).mono ?_); rw [HN.out]; rintro e w1 ⟨rfl, hw9⟩; have hw9x := hw9.symm; clear hw9; subst hw9x; clear HN))
  go_ret
  refine ⟨congrArg (fun x => Ending.returned (Value.float .f32 x)) ?_, _, rfl⟩
  first | omega | simp

/-- The word of a single by its place. -/
theorem NuR.mk {x y : Nat} (h1 : ru FloatKind.f32.format x ≤ FloatKind.f32.format.infRung) (h2 : x ≠ 2139095040) (h3 : ru FloatKind.f32.format y ≤ FloatKind.f32.format.infRung) (h4 : key .f32 y = key .f32 x + 1) : NuR x y := .inr (.inr ⟨h1, h2, h3, h4⟩)

set_option maxRecDepth 100000 in
theorem nextUp_call (x y : Nat) (w : World) (hl : (FloatKind.f32.format.order x 0 == some .lt) = false ∨ (FloatKind.f32.format.order x 2147483649 == some .eq) = false)
    (hc : ∀ w, Calls Try.prog 53 #[.float .f32 x, .float .f32 2139095040] w fun e w' => e = .returned (.float .f32 y) ∧ ∃ n, w' = w.drewN n) :
    Calls Try.prog 20 #[.float .f32 x] w fun e w' => e = .returned (.float .f32 y) ∧ ∃ n, w' = w.drewN n := by
  rcases hl with hl | hl
  all_goals
    go_enter Try.func20, Try.ntmps20
    go_wp2_with (first | (go_at_call 54; (with_reducible refine (inf_any _).mono ?_); rintro e w1 ⟨rfl, hw9⟩; have hw9x := hw9.symm; clear hw9; subst hw9x) | (refine wpl_narrow 11 Try.underlying39 Try.underlying24 rfl rfl rfl rfl ?_; intro r5 n5 hr5; obtain rfl : r5 = 2139095040 := inf_narrow hr5.out.1) | (go_at_call 53; (with_reducible refine (hc _).mono ?_); rintro e w2 ⟨rfl, n2, rfl⟩))
    all_goals
      go_ret
      exact ⟨rfl, _, rfl⟩
set_option maxRecDepth 100000 in
theorem nextUp_nanI (x : Nat) (w : World) (h : FloatKind.f32.format.infRung < ru FloatKind.f32.format x) :
    Calls Try.prog 20 #[.float .f32 x] w (NxEnd x w) := by
  have hl : (FloatKind.f32.format.order x 0 == some .lt) = false := by rw [order_nan_left .f32 h]; rfl
  have H := Lib.hid h
  clear h
  go_enter Try.func20, Try.ntmps20
  go_wp2_with (first | (go_at_call 54; (with_reducible refine (inf_any _).mono ?_); rintro e w1 ⟨rfl, hw9⟩; have hw9x := hw9.symm; clear hw9; subst hw9x) | (refine wpl_narrow 11 Try.underlying39 Try.underlying24 rfl rfl rfl rfl ?_; intro r5 n5 hr5; obtain rfl : r5 = 2139095040 := inf_narrow hr5.out.1) | (go_at_call 53; (with_reducible refine (nextafter_nan _ _ H.out).mono ?_); rintro e w2 ⟨y, n2, rfl, hy, hn, rfl⟩; have HY := Lib.hid hy; have HN := Lib.hid hn; clear hy hn))
  go_ret
  exact ⟨y, _, rfl, HY.out, .inl ⟨H.out, HN.out⟩, rfl⟩
set_option maxRecDepth 100000 in
theorem nextUp_least (w : World) :
    Calls Try.prog 20 #[.float .f32 2147483649] w fun e w' => e = .returned (.float .f32 0) ∧ w' = w := by
  have h1 : (FloatKind.f32.format.order 2147483649 0 == some .lt) = true := by decide +kernel
  have h2 : (FloatKind.f32.format.order 2147483649 2147483649 == some .eq) = true := by decide +kernel
  go_enter Try.func20, Try.ntmps20
  go_wp2
  go_ret
  exact ⟨rfl, rfl⟩

theorem nextUpI_any (x : Nat) (w : World) (hx : x < 2 ^ 32) : Calls Try.prog 20 #[.float .f32 x] w (NxEnd x w) := by
  have k0 : key .f32 0 = 0 := by decide
  have k9 : key .f32 2147483649 = -1 := by decide
  have l9 : ru FloatKind.f32.format 2147483649 ≤ FloatKind.f32.format.infRung := by decide
  rcases Nat.lt_or_ge FloatKind.f32.format.infRung (ru FloatKind.f32.format x) with h | h
  · exact nextUp_nanI x w h
  · have h' := h
    rw [i32] at h'
    by_cases hz : ru FloatKind.f32.format x = 0
    · have k1 : key .f32 x = 0 := key_zero .f32 hz
      refine (nextUp_call x 1 w (.inl (by rw [ord_lt .f32 h (by decide), k1, k0]; decide)) (fun w => nextafter_zero x w hz)).mono ?_
      rintro e w' ⟨rfl, n, rfl⟩
      exact ⟨1, n, rfl, by decide, NuR.mk h (by rintro rfl; revert hz; decide) (by decide) (by rw [k1]; decide), rfl⟩
    · rcases word_cases hx with ⟨s, e⟩ | ⟨s, e⟩
      · have k1 : key .f32 x = x := by unfold key; rw [s, ← e]; rfl
        by_cases hi : x = 2139095040
        · subst hi
          refine (nextUp_call _ _ w (.inl (by decide)) nextafter_inf).mono ?_
          rintro e w' ⟨rfl, n, rfl⟩
          exact ⟨_, n, rfl, by decide, .inr (.inl ⟨rfl, rfl⟩), rfl⟩
        · refine (nextUp_call x (x + 1) w (.inl (by rw [ord_lt .f32 h (by decide), k1, k0]; exact decide_eq_false (by omega))) (fun w => nextafter_up x w (by omega) (by omega))).mono ?_
          rintro e w' ⟨rfl, n, rfl⟩
          obtain ⟨b1, b2⟩ := ru_lit (r := x + 1) (by omega)
          exact ⟨_, n, rfl, by omega, NuR.mk h hi (by rw [b1, i32]; omega) (by unfold key; rw [b1, b2, s, ← e]; simp), rfl⟩
      · have k1 : key .f32 x = -(ru FloatKind.f32.format x : Int) := by unfold key; rw [s]; rfl
        by_cases hl : x = 2147483649
        · subst hl
          refine (nextUp_least w).mono ?_
          rintro e w' ⟨rfl, rfl⟩
          exact ⟨0, 0, rfl, by decide, NuR.mk h (by decide) (by decide) (by decide), rfl⟩
        · refine (nextUp_call x (x - 1) w (.inr (by rw [ord_eq .f32 h l9, k1, k9]; exact decide_eq_false (by omega))) (fun w => nextafter_down x w (by omega) (by omega))).mono ?_
          rintro e' w' ⟨rfl, n, rfl⟩
          obtain ⟨b1, b2⟩ := ru_lit' (r := ru FloatKind.f32.format x - 1) (by omega)
          have e2 : x - 1 = 2147483648 + (ru FloatKind.f32.format x - 1) := by omega
          rw [← e2] at b1 b2
          exact ⟨_, n, rfl, by omega, NuR.mk h (by omega) (by rw [b1, i32]; omega) (by unfold key; rw [b1, b2, s]; simp; omega), rfl⟩

/-- The next one down. -/
def NdEnd (x : Nat) (w : World) (en : Ending) (w' : World) : Prop := ∃ y n, en = .returned (.float .f32 y) ∧ y < 2 ^ 32 ∧ NuR (Op.negFloat .f32 x) (Op.negFloat .f32 y) ∧ w' = w.drewN n
theorem nn (x : Nat) (hx : x < 2 ^ 32) : Op.negFloat .f32 (Op.negFloat .f32 x) = x := by
  have h := neg_lt .f32 hx
  have h2 := neg_lt .f32 (b := Op.negFloat .f32 x) h
  rw [← word_sg_ru FloatKind.f32.format (b := Op.negFloat .f32 (Op.negFloat .f32 x)) h2, sg_neg', sg_neg', ru_neg', ru_neg', Bool.not_not, word_sg_ru FloatKind.f32.format (b := x) hx]
set_option maxRecDepth 100000 in
theorem nextDownI_any (x : Nat) (w : World) (hx : x < 2 ^ 32) : Calls Try.prog 22 #[.float .f32 x] w (NdEnd x w) := by
  have HX := Lib.hid hx
  clear hx
  go_enter Try.func22, Try.ntmps22
  go_wp2_with (go_at_call 20; (with_reducible refine (nextUpI_any _ _ (neg_lt .f32 HX.out)).mono ?_); rintro e w2 ⟨y, n2, rfl, hy, hn, rfl⟩; have HY := Lib.hid hy; have HN := Lib.hid hn; clear hy hn)
  go_ret
  exact ⟨_, _, rfl, neg_lt .f32 HY.out, by rw [nn y HY.out]; exact HN.out, rfl⟩
end Go.Proofs.Ytldcciipicnooaa
