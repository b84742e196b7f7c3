/- The six comparisons as the walk spells them; the library's small functions on floats. -/
import Derived.Test.YtjgjgjkffoagoaaDoorSf
import Derived.Laws.BitsAllLaws
namespace Go.Proofs.YtjgjgjkffoagoaaDoor
open Go.RowKit

section
variable (k : FloatKind) {x y : Nat}
theorem ord_lt (hx : ru k.format x ≤ k.format.infRung) (hy : ru k.format y ≤ k.format.infRung) : (k.format.order x y == some .lt) = decide (key k x < key k y) := by
  rw [order_key k hx hy]
  rcases Int.lt_trichotomy (key k x) (key k y) with h | h | h
  · rw [Int.compare_eq_lt.2 h]; simp [h]
  · rw [Int.compare_eq_eq.2 h]; simp [h]
  · rw [Int.compare_eq_gt.2 h]; simp; omega
theorem ord_gt (hx : ru k.format x ≤ k.format.infRung) (hy : ru k.format y ≤ k.format.infRung) : (k.format.order x y == some .gt) = decide (key k y < key k x) := by
  rw [order_key k hx hy]
  rcases Int.lt_trichotomy (key k x) (key k y) with h | h | h
  · rw [Int.compare_eq_lt.2 h]; simp; omega
  · rw [Int.compare_eq_eq.2 h]; simp [h]
  · rw [Int.compare_eq_gt.2 h]; simp [h]
theorem ord_eq (hx : ru k.format x ≤ k.format.infRung) (hy : ru k.format y ≤ k.format.infRung) : (k.format.order x y == some .eq) = decide (key k x = key k y) := by
  rw [order_key k hx hy]
  rcases Int.lt_trichotomy (key k x) (key k y) with h | h | h
  · rw [Int.compare_eq_lt.2 h]; simp; omega
  · rw [Int.compare_eq_eq.2 h]; simp [h]
  · rw [Int.compare_eq_gt.2 h]; simp; omega
theorem ord_ne (hx : ru k.format x ≤ k.format.infRung) (hy : ru k.format y ≤ k.format.infRung) : (k.format.order x y != some .eq) = !decide (key k x = key k y) := by
  rw [← ord_eq k hx hy]; rfl
end
theorem i32 : FloatKind.f32.format.infRung = 2139095040 := by decide
theorem i64 : FloatKind.f64.format.infRung = 9218868437227405312 := by decide
theorem s32 : FloatKind.f32.format.signWeight = 2147483648 := by decide
theorem s64 : FloatKind.f64.format.signWeight = 9223372036854775808 := by decide
theorem b32 : FloatKind.f32.format.binade = 8388608 := by decide
theorem b64 : FloatKind.f64.format.binade = 4503599627370496 := by decide
theorem l32 : FloatKind.f32.format.leastPlace = -149 := by decide
theorem l64 : FloatKind.f64.format.leastPlace = -1074 := by decide

/-- Is a word finite? -/
def finB (k : FloatKind) (b : Nat) : Bool := decide (ru k.format b < k.format.infRung)

theorem run_f64bits (b : Nat) (w : World) : (callFunc 90 #[.float .f64 b]).run Tryd.prog w = .ok (.value (.int .u64 b)) w := by kernel_rfl
theorem run_f64from (b : Int) (w : World) : (callFunc 89 #[.int .u64 b]).run Tryd.prog w = .ok (.value (.float .f64 b.toNat)) w := by kernel_rfl

theorem ru_ru (f : Ieee.Format) (b : Nat) : ru f (ru f b) = ru f b := Nat.mod_mod _ _
theorem sg_ru (f : Ieee.Format) (b : Nat) : sg f (ru f b) = false := by
  unfold sg; rw [Nat.div_eq_of_lt (ru_lt f b)]; rfl

theorem abs_bits (b : Nat) (hb : b < 18446744073709551616) : (bits .andNot .u64 (b : Int) 9223372036854775808).toNat = ru FloatKind.f64.format b := by
  rw [show (9223372036854775808 : Int) = ((9223372036854775808 : Nat) : Int) from rfl, u64_andNot_nat _ _ hb (by decide)]
  unfold ru
  rw [s64, Int.toNat_natCast]
  exact Nat.and_two_pow_sub_one_eq_mod b 63

theorem abs_any (b : Nat) (w : World) (hb : b < 2 ^ 64) :
    Calls Tryd.prog 74 #[.float .f64 b] w fun e w' => e = .returned (.float .f64 (ru FloatKind.f64.format b)) ∧ w' = w := by
  have h1 := run_f64bits b
  have h2 := fun c => run_f64from c
  have HB := Lib.hid hb
  clear hb
  go_enter Tryd.func74, Tryd.ntmps74
  go_wp2_with fail
  go_ret
  exact ⟨congrArg (fun x => Ending.returned (.float .f64 x)) (abs_bits b HB.out), rfl⟩

theorem isNaN_any (b : Nat) (w : World) :
    Calls Tryd.prog 99 #[.float .f64 b] w fun e w' => e = .returned (.bool (decide (FloatKind.f64.format.infRung < ru FloatKind.f64.format b))) ∧ w' = w := by
  have h : (FloatKind.f64.format.order b b != some .eq) = decide (FloatKind.f64.format.infRung < ru FloatKind.f64.format b) := by
    rcases Nat.lt_or_ge FloatKind.f64.format.infRung (ru FloatKind.f64.format b) with h | h
    · rw [order_nan_left .f64 h]; simp [h]
    · rw [ord_ne .f64 h h]; simp; exact h
  have H := Lib.hid h
  clear h
  go_enter Tryd.func99, Tryd.ntmps99
  go_wp2
  go_ret
  exact ⟨congrArg (fun x => Ending.returned (.bool x)) H.out, rfl⟩

theorem max64 : ru FloatKind.f64.format 9218868437227405311 = 9218868437227405311 ∧ sg FloatKind.f64.format 9218868437227405311 = false := by decide
theorem key_pos (k : FloatKind) {b : Nat} (h : sg k.format b = false) : key k b = ru k.format b := by unfold key; rw [h]; rfl

/-- IsInf(f, 0). -/
theorem isInf_any (b : Nat) (w : World) (hb : b < 2 ^ 64) :
    Calls Tryd.prog 56 #[.float .f64 b, .int .i64 0] w fun e w' => e = .returned (.bool (decide (ru FloatKind.f64.format b = FloatKind.f64.format.infRung))) ∧ w' = w := by
  have h : (FloatKind.f64.format.order (ru FloatKind.f64.format b) 9218868437227405311 == some .gt) = decide (ru FloatKind.f64.format b = FloatKind.f64.format.infRung) := by
    rcases Nat.lt_or_ge FloatKind.f64.format.infRung (ru FloatKind.f64.format b) with h | h
    · rw [order_nan_left .f64 (by rw [ru_ru]; exact h)]; simp; omega
    · rw [ord_gt .f64 (by rw [ru_ru]; exact h) (by rw [max64.1, i64]; decide), key_pos .f64 max64.2, key_pos .f64 (sg_ru _ _), max64.1, ru_ru]
      rw [i64] at h ⊢
      rw [Bool.eq_iff_iff]; simp; omega
  have H := Lib.hid h
  have HB := Lib.hid hb
  clear h hb
  go_enter Tryd.func56, Tryd.ntmps56
  go_wp2_with (go_at_call 74; (with_reducible refine (abs_any _ _ HB.out).mono ?_); rintro e w9 ⟨rfl, hw9⟩; have hw9x := hw9.symm; clear hw9; subst hw9x)
  go_ret
  exact ⟨congrArg (fun x => Ending.returned (.bool x)) H.out, rfl⟩

theorem finite_any (b : Nat) (w : World) (hb : b < 2 ^ 64) :
    Calls Tryd.prog 81 #[.float .f64 b] w fun e w' => e = .returned (.bool (finB .f64 b)) ∧ w' = w := by
  have HB := Lib.hid hb
  clear hb
  rcases Nat.lt_or_ge FloatKind.f64.format.infRung (ru FloatKind.f64.format b) with h | h
  · have h1 : decide (FloatKind.f64.format.infRung < ru FloatKind.f64.format b) = true := by simpa using h
    have h2 : finB .f64 b = false := by unfold finB; simp; omega
    rw [h2]
    have H1 := Lib.hid h1
    clear h1 h2 h
    go_enter Tryd.func81, Tryd.ntmps81
    go_wp2_with (go_at_call 99; (with_reducible refine (isNaN_any _ _).mono ?_); rw [H1.out]; rintro e w1 ⟨rfl, rfl⟩)
    go_ret
    exact ⟨rfl, rfl⟩
  · have h1 : decide (FloatKind.f64.format.infRung < ru FloatKind.f64.format b) = false := by simpa using h
    have h3 : finB .f64 b = !decide (ru FloatKind.f64.format b = FloatKind.f64.format.infRung) := by
      unfold finB; rw [Bool.eq_iff_iff]; simp; omega
    rw [h3]
    have H1 := Lib.hid h1
    clear h1 h3 h
    go_enter Tryd.func81, Tryd.ntmps81
    go_wp2_with (first | (go_at_call 99; (with_reducible refine (isNaN_any _ _).mono ?_); rw [H1.out]; rintro e w1 ⟨rfl, rfl⟩) | (go_at_call 56; (with_reducible refine (isInf_any _ _ HB.out).mono ?_); generalize hq : decide (ru FloatKind.f64.format b = FloatKind.f64.format.infRung) = q; have HQ := Lib.hid hq; clear hq; rintro e w1 ⟨rfl, rfl⟩))
    go_ret
    exact ⟨by rw [HQ.out]; rfl, rfl⟩

/-- What a single's word becomes as a double's. -/
theorem widen_cases {b r : Nat} (h : cw .f64 r = widen (cw .f32 b)) :
    (FloatKind.f32.format.infRung < ru FloatKind.f32.format b ∧ FloatKind.f64.format.infRung < ru FloatKind.f64.format r) ∨
    (ru FloatKind.f32.format b = FloatKind.f32.format.infRung ∧ ru FloatKind.f64.format r = FloatKind.f64.format.infRung ∧ sg FloatKind.f64.format r = sg FloatKind.f32.format b) ∨
    (ru FloatKind.f32.format b < FloatKind.f32.format.infRung ∧ ru FloatKind.f64.format r < FloatKind.f64.format.infRung ∧ sg FloatKind.f64.format r = sg FloatKind.f32.format b ∧ val .f64 r = val .f32 b) := by
  rcases cw_cases .f32 b with ⟨h1, h2⟩ | ⟨h1, h2⟩
  · left
    rw [h1] at h
    rcases cw_cases .f64 r with ⟨_, h4⟩ | ⟨h3, _⟩
    · exact ⟨h2, h4⟩
    · rw [h3] at h; cases h
  · right
    rw [h1] at h
    have h' : cw .f64 r = some (FloatKind.f64.format.write (FloatKind.f32.format.read b)) := h
    have hr : r = FloatKind.f64.format.write (FloatKind.f32.format.read b) := by
      rcases cw_cases .f64 r with ⟨h3, _⟩ | ⟨h3, _⟩
      · rw [h3] at h'; cases h'
      · rw [h3] at h'; injection h'
    rcases Nat.lt_or_eq_of_le h2 with h5 | h5
    · right
      obtain ⟨q, hq, a1, a2, a3⟩ := widen_fin h5
      rw [← hq] at hr
      subst hr
      exact ⟨h5, a2, a1, a3⟩
    · left
      have e : FloatKind.f64.format.write (FloatKind.f32.format.read b) = FloatKind.f64.format.word (sg FloatKind.f32.format b) FloatKind.f64.format.infRung := by rw [read_inf .f32 h5]; rfl
      rw [e] at hr
      have := inf_lt .f64
      exact ⟨h5, by rw [hr, ru_word _ _ this], by rw [hr, sg_word _ _ this]⟩
theorem fin_widen {b r : Nat} (h : cw .f64 r = widen (cw .f32 b)) : finB .f64 r = finB .f32 b := by
  unfold finB
  rcases widen_cases h with ⟨h1, h2⟩ | ⟨h1, h2, _⟩ | ⟨h1, h2, _⟩
  · rw [Bool.eq_iff_iff]; simp; omega
  · rw [Bool.eq_iff_iff]; simp; omega
  · rw [Bool.eq_iff_iff]; simp; omega

theorem finiteSingle_any (b : Nat) (w : World) :
    Calls Tryd.prog 76 #[.float .f32 b] w fun e w' => e = .returned (.bool (finB .f32 b)) ∧ ∃ n, w' = w.drewN n := by
  go_enter Tryd.func76, Tryd.ntmps76
  go_wp2_with (first | (refine wpl_widen 4 Tryd.underlying73 Tryd.underlying65 rfl rfl rfl rfl ?_; intro r1 n1 hr1) | (go_at_call 81; (with_reducible refine (finite_any _ _ hr1.out.2).mono ?_); rw [fin_widen hr1.out.1]; rintro e w1 ⟨rfl, rfl⟩))
  go_ret
  exact ⟨rfl, _, rfl⟩
end Go.Proofs.YtjgjgjkffoagoaaDoor
