/- What the drawn numbers answer: a drawn part of a number is finite, not below 0, a single, and not -0; and equality with oneself. Condition: the word is finite. -/
import Derived.Test.YtjgjgjkffoagoaaDoorSlot
namespace Go.Proofs.YtjgjgjkffoagoaaDoor
open Go.RowKit
set_option maxRecDepth 100000
set_option maxHeartbeats 4000000
set_option linter.unusedVariables false
set_option linter.unusedSimpArgs false

/-- A finite word of a double. -/
def FinW (x : Nat) : Prop := x < 2 ^ 64 ∧ ru FloatKind.f64.format x < FloatKind.f64.format.infRung
theorem FinW.zero : FinW 0 := ⟨by decide, by decide⟩
theorem FinW.cw {x : Nat} (h : FinW x) : cw .f64 x = some x := cw_some .f64 (Nat.le_of_lt h.2)
theorem FinW.finB {x : Nat} (h : FinW x) : finB .f64 x = true := decide_eq_true h.2
theorem FinW.order {x : Nat} (h : FinW x) : FloatKind.f64.format.order x x = some .eq := order_self (Nat.le_of_lt h.2)
theorem GoodW.fin {x : Nat} (h : GoodW x) : FinW x ∧ sg FloatKind.f64.format x = false := by
  obtain ⟨hl, y, hy, hr, hs, hw⟩ := h
  rcases widen_cases hw with ⟨h1, h2⟩ | ⟨h1, h2, _⟩ | ⟨h1, h2, h3, _⟩
  · omega
  · omega
  · exact ⟨⟨hl, h2⟩, by rw [h3]; exact hs⟩
theorem good_zero : GoodW 0 := ⟨by decide, 0, by decide, by decide, by decide, by kernel_rfl⟩
theorem GoodV.both {a b : Nat} (h : GoodV a b) : GoodW a ∧ GoodW b := by
  rcases h with ⟨h, rfl⟩ | ⟨rfl, h⟩
  · exact ⟨h, good_zero⟩
  · exact ⟨good_zero, h⟩
theorem GoodW.read {x : Nat} (h : GoodW x) : ∃ y m p, y < 2 ^ 32 ∧ ru FloatKind.f32.format y < FloatKind.f32.format.infRung ∧ sg FloatKind.f32.format y = false ∧ cw .f64 x = widen (cw .f32 y) ∧
    FloatKind.f64.format.read x = .number false m p ∧ vOf m p = rval FloatKind.f64.format (ru FloatKind.f64.format x) ∧ vOf m p = rval FloatKind.f32.format (ru FloatKind.f32.format y) := by
  obtain ⟨⟨hl, hf⟩, hs⟩ := h.fin
  obtain ⟨_, y, hy, hr, hsy, hw⟩ := h
  obtain ⟨m, p, e, v⟩ := read_fin _ hf
  refine ⟨y, m, p, hy, hr, hsy, hw, by rw [e, hs], v, ?_⟩
  rcases widen_cases hw with ⟨h1, h2⟩ | ⟨h1, h2, _⟩ | ⟨h1, h2, h3, h4⟩
  · omega
  · omega
  · have e1 : val .f64 x = rval FloatKind.f64.format (ru FloatKind.f64.format x) := by unfold val; rw [hs]; rfl
    have e2 : val .f32 y = rval FloatKind.f32.format (ru FloatKind.f32.format y) := by unfold val; rw [hsy]; rfl
    rw [v, ← e1, ← e2]
    exact h4
theorem word_false {f : Ieee.Format} {b : Nat} (h : b < 2 ^ f.width) (hs : sg f b = false) : f.word false (ru f b) = b := by
  have := word_sg_ru f h
  rwa [hs] at this
theorem good_narrow {x r q : Nat} (h : GoodW x) (hy : Narrow (cw .f64 x) (cw .f32 r)) (hq : cw .f64 q = widen (cw .f32 r)) : FloatKind.f64.format.order q x = some .eq := by
  obtain ⟨y, m, p, hy1, hy2, hy3, hw, hread, v1, v2⟩ := h.read
  have hf := h.fin.1
  have e : rungOf FloatKind.f32.format m p = ru FloatKind.f32.format y := rung_of_rval _ v2
  rw [hf.cw] at hy
  simp only [Narrow, hread] at hy
  have hr := hy (by rw [e]; exact hy2)
  rw [write_number, e, Nat.min_eq_left (Nat.le_of_lt hy2), word_false hy1 hy3] at hr
  rw [hr, ← cw_some .f32 (Nat.le_of_lt hy2), ← hw] at hq
  rw [cmp_cw hq rfl]
  exact hf.order
theorem good_plus {x r : Nat} (h : GoodW x) (hr : cw .f64 r = arithR .add .f64 (cw .f64 x) (cw .f64 0)) : r = x := by
  rw [floatBits_cw] at hr
  obtain ⟨⟨hl, hf⟩, hs⟩ := h.fin
  obtain ⟨s, m, p, e, v, hz⟩ := sum_fin .f64 hf (show ru FloatKind.f64.format 0 < FloatKind.f64.format.infRung by decide)
  have v0 : val .f64 0 = 0 := by
    unfold val
    rw [ru_zero, sg_zero, rval_zero]
    rfl
  have vx : val .f64 x = rval FloatKind.f64.format (ru FloatKind.f64.format x) := by unfold val; rw [hs]; rfl
  rw [v0, Rat.add_zero, vx] at v
  have hs0 : s = false := by
    cases s
    · rfl
    · by_cases hm : m = 0
      · rw [hz hm, hs]; rfl
      · exfalso
        have h1 := vOf_pos p (Nat.pos_of_ne_zero hm)
        have h2 := rval_nonneg FloatKind.f64.format (ru FloatKind.f64.format x)
        rw [← v] at h2
        unfold sv at h2
        simp only [if_true] at h2
        have : vOf m p ≤ 0 := by grind
        exact absurd h1 (Rat.not_lt.2 this)
  subst hs0
  have v' : vOf m p = rval FloatKind.f64.format (ru FloatKind.f64.format x) := v
  rw [e, write_number, rung_of_rval _ v', Nat.min_eq_left (Nat.le_of_lt hf), word_false hl hs] at hr
  unfold cw at hr
  split at hr
  · cases hr
  · exact Option.some.inj hr
theorem good_key {x : Nat} (h : GoodW x) : key .f64 x = (ru FloatKind.f64.format x : Int) := key_pos .f64 h.fin.2
/-- 'x > 0' and 'x is 0'. -/
theorem good_gt {x : Nat} (h : GoodW x) : (FloatKind.f64.format.order x 0 == some .gt) = decide (x ≠ 0) := by
  obtain ⟨⟨hl, hf⟩, hs⟩ := h.fin
  rw [ord_gt .f64 (Nat.le_of_lt hf) (by decide), good_key h, key_zero .f64 (ru_zero .f64)]
  have e := word_false (f := FloatKind.f64.format) hl hs
  have hw : FloatKind.f64.format.word false (ru FloatKind.f64.format x) = ru FloatKind.f64.format x := rfl
  rw [hw] at e
  rw [e]
  congr 1
  apply propext
  omega
theorem good_ge {x : Nat} (h : GoodW x) : (FloatKind.f64.format.order x 0 == some .gt || FloatKind.f64.format.order x 0 == some .eq) = true := by
  have hf := h.fin.1
  rw [good_gt h, ord_eq .f64 (Nat.le_of_lt hf.2) (by decide), good_key h, key_zero .f64 (ru_zero .f64)]
  by_cases hx : x = 0
  · subst hx; simp; decide
  · simp [hx]
theorem quo_zero (s : Bool) : floatBits .quo .f64 4607182418800017408 (FloatKind.f64.format.word s 0) = some (FloatKind.f64.format.word s FloatKind.f64.format.infRung) := by cases s <;> kernel_rfl
theorem quo_self {x r q : Nat} (h : FinW x) (hx : (FloatKind.f64.format.order x 0 != some .eq) = false) (hr : cw .f64 r = arithR .quo .f64 (cw .f64 4607182418800017408) (cw .f64 x)) (hq : cw .f64 q = arithR .quo .f64 (cw .f64 4607182418800017408) (cw .f64 x)) : (FloatKind.f64.format.order r q == some .eq) = true := by
  rw [ord_ne .f64 (Nat.le_of_lt h.2) (by decide), key_zero .f64 (ru_zero .f64)] at hx
  have h0 : ru FloatKind.f64.format x = 0 := by
    simp at hx
    unfold key at hx
    split at hx <;> omega
  have e := word_sg_ru FloatKind.f64.format (b := x) h.1
  rw [h0] at e
  rw [floatBits_cw, ← e, quo_zero] at hr hq
  have hi : FloatKind.f64.format.infRung < FloatKind.f64.format.signWeight := inf_lt .f64
  have hc : cw .f64 (FloatKind.f64.format.word (sg FloatKind.f64.format x) FloatKind.f64.format.infRung) = some (FloatKind.f64.format.word (sg FloatKind.f64.format x) FloatKind.f64.format.infRung) :=
    cw_some .f64 (by rw [ru_word _ _ hi]; exact Nat.le_refl _)
  rw [← hc] at hr hq
  rw [cmp_cw hr hq, order_self (by rw [ru_word _ _ hi]; exact Nat.le_refl _)]
  rfl

theorem signbit_any (b : Nat) (w : World) : Calls Tryd.prog 75 #[.float .f64 b] w fun e w' => e = .returned (.bool (decide (wrap64 (b : Int) < 0))) ∧ w' = w := by
  have h1 := run_f64bits b
  go_enter Tryd.func75, Tryd.ntmps75
  go_wp2
  go_ret
  exact ⟨rfl, rfl⟩
theorem same_self (x : Nat) (w : World) (h : FinW x) : Calls Tryd.prog 80 #[.float .f64 x, .float .f64 x] w fun e w' => e = .returned (.bool true) ∧ w' = w := by
  have h0 : (FloatKind.f64.format.order x x == some .eq) = true := by rw [h.order]; rfl
  go_enter Tryd.func80, Tryd.ntmps80
  go_wp2_with (go_at_call 75; (with_reducible refine (signbit_any _ _).mono ?_); rintro e w1 ⟨rfl, hw⟩; subst hw)
  go_ret
  refine ⟨?_, rfl⟩
  simp
theorem sameC_self (x y : Nat) (w : World) (h : FinW x) (h' : FinW y) : Calls Tryd.prog 60 #[.complex .f64 x y, .complex .f64 x y] w fun e w' => e = .returned (.bool true) ∧ w' = w := by
  go_enter Tryd.func60, Tryd.ntmps60
  go_wp2_with (go_at_call 80; (with_reducible refine (same_self _ _ (by assumption)).mono ?_); rintro e w1 ⟨rfl, hw⟩; subst hw)
  go_ret
  exact ⟨rfl, rfl⟩
theorem l01Same_self (x : Nat) (w : World) (h : FinW x) : Calls Tryd.prog 87 #[.float .f64 x, .float .f64 x] w fun e w' => e = .returned (.bool true) ∧ ∃ n, w' = w.drewN n := by
  have h0 : (FloatKind.f64.format.order x x == some .eq) = true := by rw [h.order]; rfl
  have h1 : (FloatKind.f64.format.order x x != some .eq) = false := by rw [h.order]; rfl
  go_enter Tryd.func87, Tryd.ntmps87
  cases h2 : (FloatKind.f64.format.order x 0 != some .eq)
  · go_wp2_with (first | (refine wpl_farith 29 rfl rfl rfl rfl rfl rfl ?_; intro r1 n1 hr1) | (refine wpl_farith 31 rfl rfl rfl rfl rfl rfl ?_; intro r2 n2 hr2; have h3 := quo_self h h2 hr1.out.1 hr2.out.1))
    go_ret
    exact ⟨rfl, _, rfl⟩
  · go_wp2
    go_ret
    exact ⟨rfl, 0, (World.drewN_zero _).symm⟩
theorem sameC_selfS (x y : Nat) (w : World) (h : FinW x) (h' : FinW y) : Calls Tryd.prog 69 #[.complex .f64 x y, .complex .f64 x y] w fun e w' => e = .returned (.bool true) ∧ ∃ n, w' = w.drewN n := by
  go_enter Tryd.func69, Tryd.ntmps69
  go_wp2_with (first | (go_at_call 87; (with_reducible refine (l01Same_self x _ h).mono ?_); rintro e w1 ⟨rfl, n1, hw⟩; subst hw) | (go_at_call 87; (with_reducible refine (l01Same_self y _ h').mono ?_); rintro e w1 ⟨rfl, n2, hw⟩; subst hw))
  go_ret
  exact ⟨rfl, _, rfl⟩
theorem finite_good (x : Nat) (w : World) (h : FinW x) : Calls Tryd.prog 81 #[.float .f64 x] w fun e w' => e = .returned (.bool true) ∧ w' = w := by
  have := finite_any x w h.1
  rwa [h.finB] at this
theorem fine_good (x : Nat) (w : World) (h : FinW x) : Calls Tryd.prog 88 #[.float .f64 x] w fun e w' => e = .returned (.bool true) ∧ ∃ n, w' = w.drewN n := by
  have := l01Fine_any x w
  rwa [h.finB] at this
theorem partOk_good (x : Nat) (w : World) (h : GoodW x) : Calls Tryd.prog 61 #[.float .f64 x] w fun e w' => e = .returned (.bool true) ∧ ∃ n, w' = w.drewN n := by
  have hf := h.fin.1
  have hge := good_ge h
  go_enter Tryd.func61, Tryd.ntmps61
  go_wp2_with (first | (go_at_call 81; (with_reducible refine (finite_good _ _ hf).mono ?_); rintro e w1 ⟨rfl, hw⟩; subst hw) | (refine wpl_narrow 11 Tryd.underlying65 Tryd.underlying73 rfl rfl rfl rfl ?_; intro r1 n1 hr1) | (refine wpl_widen 12 Tryd.underlying73 Tryd.underlying65 rfl rfl rfl rfl ?_; intro r2 n2 hr2; have h3 : (FloatKind.f64.format.order r2 x == some .eq) = true := by rw [good_narrow h hr1.out.1 hr2.out.1]; rfl) | (refine wpl_farith 20 rfl rfl rfl rfl rfl rfl ?_; intro r3 n3 hr3; obtain rfl := good_plus h hr3.out.1) | (go_at_call 60; (with_reducible refine (sameC_self _ _ _ hf FinW.zero).mono ?_); rintro e w1 ⟨rfl, hw⟩; subst hw))
  go_ret
  exact ⟨rfl, _, rfl⟩
theorem l08Part_good (x : Nat) (w : World) (h : GoodW x) : Calls Tryd.prog 70 #[.float .f64 x] w fun e w' => e = .returned (.bool true) ∧ ∃ n, w' = w.drewN n := by
  have hf := h.fin.1
  go_enter Tryd.func70, Tryd.ntmps70
  by_cases hx : x = 0
  · subst hx
    have hg : (FloatKind.f64.format.order 0 0 == some .gt) = false := by kernel_rfl
    go_wp2_with (first | (go_at_call 88; (with_reducible refine (fine_good _ _ hf).mono ?_); rintro e w1 ⟨rfl, n0, hw⟩; subst hw) | (refine wpl_narrow 15 Tryd.underlying65 Tryd.underlying73 rfl rfl rfl rfl ?_; intro r1 n1 hr1) | (refine wpl_widen 16 Tryd.underlying73 Tryd.underlying65 rfl rfl rfl rfl ?_; intro r2 n2 hr2; have h3 : (FloatKind.f64.format.order r2 0 == some .eq) = true := by rw [good_narrow h hr1.out.1 hr2.out.1]; rfl) | (go_at_call 87; (with_reducible refine (l01Same_self 0 _ FinW.zero).mono ?_); rintro e w1 ⟨rfl, n4, hw⟩; subst hw))
    go_ret
    exact ⟨rfl, _, rfl⟩
  · have hg : (FloatKind.f64.format.order x 0 == some .gt) = true := by rw [good_gt h]; simpa using hx
    go_wp2_with (first | (go_at_call 88; (with_reducible refine (fine_good _ _ hf).mono ?_); rintro e w1 ⟨rfl, n0, hw⟩; subst hw) | (refine wpl_narrow 15 Tryd.underlying65 Tryd.underlying73 rfl rfl rfl rfl ?_; intro r1 n1 hr1) | (refine wpl_widen 16 Tryd.underlying73 Tryd.underlying65 rfl rfl rfl rfl ?_; intro r2 n2 hr2; have h3 : (FloatKind.f64.format.order r2 x == some .eq) = true := by rw [good_narrow h hr1.out.1 hr2.out.1]; rfl))
    go_ret
    exact ⟨rfl, _, rfl⟩
end Go.Proofs.YtjgjgjkffoagoaaDoor
