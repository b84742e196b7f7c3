/- Writing an expression: how a kind binds, a text in parentheses, a number's text. Condition of the last: the table of powers of ten is laid. -/
import Derived.Test.YtjgjgjkffoagoaaDoorTreeD
namespace Go.Proofs.YtjgjgjkffoagoaaDoor
open Go.RowKit
open Go.Lib (itoa decDigits nDigits nDigits_le20 itoa_length_le)
attribute [local go_sem] run_store_float run_store_complex
set_option maxRecDepth 100000
set_option maxHeartbeats 1000000
set_option linter.unusedVariables false
set_option linter.unusedSimpArgs false

theorem strength_is (k : Int) (hk : 1 ≤ k ∧ k ≤ 12) (w : World) : Calls Tryd.prog 18 #[.int .i64 k] w fun e w' => e = .returned (.int .i64 (stg k : Int)) ∧ w' = w := by
  have h : k = 1 ∨ k = 2 ∨ k = 3 ∨ k = 4 ∨ k = 5 ∨ k = 6 ∨ k = 7 ∨ k = 8 ∨ k = 9 ∨ k = 10 ∨ k = 11 ∨ k = 12 := by omega
  rcases h with rfl | rfl | rfl | rfl | rfl | rfl | rfl | rfl | rfl | rfl | rfl | rfl
  all_goals
    clear hk
    go_enter Tryd.func18, Tryd.ntmps18
    go_wp2
    go_ret
    exact ⟨rfl, rfl⟩
/-- A text that binds so much, as a value. -/
abbrev wtV (t : List UInt8) (b : Nat) : Value := .agg #[tx t, .int .i64 (b : Int)]
theorem inside_is (t : List UInt8) (b n : Nat) (m : Int) (hm : m = (n : Int)) (ht : t.length ≤ 1000000) (w : World) : Calls Tryd.prog 22 #[wtV t b, .int .i64 m] w fun e w' => e = .returned (tx (ins n t b)) ∧ Below w.heap.size w w' := by
  subst hm
  have g1 : (9223372036854775807 < 1 + t.length) = False := eq_false (by omega)
  have g2 : (9223372036854775807 < 1 + t.length + 1) = False := eq_false (by omega)
  by_cases h : b < n
  · have c : decide ((b : Int) < (n : Int)) = true := decide_eq_true (by omega)
    have c' : decide (b < n) = true := decide_eq_true h
    have HI := Lib.hid (show ins n t b = 40 :: (t ++ [41]) by unfold ins; rw [if_pos h])
    clear h
    go_enter Tryd.func22, Tryd.ntmps22
    go_wp2
    go_ret
    refine ⟨?_, bl_alloc (Below.refl _ _) _⟩
    rw [HI.out]
    show Ending.returned (Value.string (((⟨[40].toArray⟩ : ByteArray) ++ (⟨t.toArray⟩ : ByteArray)) ++ (⟨[41].toArray⟩ : ByteArray))) = _
    rw [cat, cat]; rfl
  · have c : decide ((b : Int) < (n : Int)) = false := decide_eq_false (by omega)
    have c' : decide (b < n) = false := decide_eq_false h
    have HI := Lib.hid (show ins n t b = t by unfold ins; rw [if_neg h])
    clear h
    go_enter Tryd.func22, Tryd.ntmps22
    go_wp2
    go_ret
    refine ⟨?_, bl_alloc (Below.refl _ _) _⟩
    rw [HI.out]; rfl
/-- A number's word narrowed is the single that it is. -/
theorem narrow_GS {y x r : Nat} (h : GS y) (hl : x < 2 ^ 64) (hx : cw .f64 x = widen (cw .f32 y)) (hn : Narrow (cw .f64 x) (cw .f32 r)) : r = y := by
  obtain ⟨m, e, hm, hv⟩ : ∃ (m : Nat) (e : Int), Is x m e ∧ _root_.Go.Proofs.YtjgjgjkffoagoaaDoor.val .f32 y = vOf m e := by
    by_cases h0 : y = 0
    · subst h0
      have hx0 : x = wd 0 := wd_of h hx
      have : wd 0 = 0 := by kernel_rfl
      rw [this] at hx0
      subst hx0
      exact ⟨0, 0, Is.of_zero 0, by rw [h.val, rval_zero, vOf_zero]⟩
    · obtain ⟨m, p, _, _, _, _, hv, hi⟩ := widen_GS h h0 hx hl
      exact ⟨m, p, hi, hv⟩
  have hr : rungOf FloatKind.f32.format m e = y := rung_of_rval _ (by rw [← hv, h.val])
  have hok : mkOk m e = true := by
    unfold mkOk
    rw [hr]
    have := h.2.1
    rw [h.ru] at this
    exact decide_eq_true ⟨this, by rw [← h.val, hv]⟩
  rcases mk_cases hm hn with ⟨_, h2, _⟩ | ⟨h1, _⟩ | ⟨h1, _⟩
  · rw [h2, hr]
  · rw [hok] at h1; cases h1
  · rw [hok] at h1; cases h1
theorem GoodW.single {x : Nat} (h : GoodW x) : ∃ y, GS y ∧ cw .f64 x = widen (cw .f32 y) ∧ x = wd y ∧ x < 2 ^ 64 := by
  obtain ⟨h1, y, a, b, c, d⟩ := h
  exact ⟨y, ⟨a, b, c⟩, d, wd_of ⟨a, b, c⟩ d, h1⟩
theorem wd_zero : wd 0 = 0 := by kernel_rfl
/-- What numberText ends with. -/
def NtEnd (re im : Nat) (w : World) (e : Ending) (w' : World) : Prop := ∃ t, e = .returned (tx t) ∧ LeafOk ⟨1, 0, re, im⟩ t ∧ t.length ≤ 60 ∧ Below w.heap.size w w'
theorem numberText_any (re im : Nat) (h : GoodV re im) (w : World) (htab : Lib.TabIs Tryd.prog w "internal/strconv.uint64pow10" .u64 Lib.pow10Tab) : Calls Tryd.prog 20 #[.complex .f64 re im] w (NtEnd re im w) := by
  have HT := Lib.hid htab
  clear htab
  by_cases h0 : im = 0
  · subst h0
    obtain ⟨y, hy, hc, hwd, hl⟩ := h.both.1.single
    have c1 : (FloatKind.f64.format.order 0 0 != some .eq) = false := by decide
    have HY := Lib.hid hy
    have HC := Lib.hid hc
    have HL := Lib.hid hl
    have HW := Lib.hid hwd
    clear hy hc hl hwd h
    go_enter Tryd.func20, Tryd.ntmps20
    go_wp2_with (refine wpl_narrow 14 Tryd.underlying65 Tryd.underlying73 rfl rfl rfl rfl ?_; intro r n1 hr; obtain rfl : r = y := narrow_GS HY.out HL.out HC.out hr.out.1; clear hr)
    go_at_call 37
    refine (fmtSingle_any r _ HY.out (tab_on HT.out (bl_drewN (Below.refl _ _) _))).mono ?_
    rintro e w1 ⟨l, rfl, hl1, hl2, hb⟩
    have HE := Lib.hid (bl_call (bl_drewN (Below.refl _ w) n1) hb)
    have HX := Lib.hid hl1
    have f1 : (l.length + 1 < 1) = False := eq_false (by omega)
    clear hb hl1
    go_wp2
    go_ret
    refine ⟨l, ?_, .inr ⟨r, l, HY.out, HX.out, .inl ⟨by rw [← HW.out], rfl⟩⟩, by omega, HE.out⟩
    show Ending.returned (Value.string ((⟨(43 :: l).toArray⟩ : ByteArray).extract 1 (l.length + 1))) = _
    rw [tl_of]
  · obtain ⟨y, hy, hc, hwd, hl⟩ := h.both.2.single
    have hre : re = 0 := by
      rcases h with ⟨_, h1⟩ | ⟨h1, _⟩
      · exact absurd h1 h0
      · exact h1
    subst hre
    have hg := h.both.2
    have hy0 : y ≠ 0 := fun hz => h0 (by rw [hwd, hz, wd_zero])
    have c1 : (FloatKind.f64.format.order im 0 != some .eq) = true := by
      have h1 := good_gt hg
      rw [decide_eq_true h0] at h1
      cases hq : FloatKind.f64.format.order im 0 with
      | none => rfl
      | some o => rw [hq] at h1; cases o <;> first | rfl | (exact absurd h1 (by decide))
    have HY := Lib.hid hy
    have HC := Lib.hid hc
    have HL := Lib.hid hl
    have HW := Lib.hid hwd
    clear hy hc hl hwd h hg
    go_enter Tryd.func20, Tryd.ntmps20
    go_wp2_with (refine wpl_narrow 8 Tryd.underlying65 Tryd.underlying73 rfl rfl rfl rfl ?_; intro r n1 hr; obtain rfl : r = y := narrow_GS HY.out HL.out HC.out hr.out.1; clear hr)
    go_at_call 37
    refine (fmtSingle_any r _ HY.out (tab_on HT.out (bl_drewN (Below.refl _ _) _))).mono ?_
    rintro e w1 ⟨l, rfl, hl1, hl2, hb⟩
    have HE := Lib.hid (bl_call (bl_drewN (Below.refl _ w) n1) hb)
    have HX := Lib.hid hl1
    have f1 : (l.length + 1 < 1) = False := eq_false (by omega)
    have f2 : (9223372036854775807 < l.length + 1) = False := eq_false (by omega)
    clear hb hl1
    go_wp2
    go_ret
    refine ⟨l ++ [105], ?_, .inr ⟨r, l, HY.out, HX.out, .inr ⟨hy0, by rw [← HW.out], rfl⟩⟩, by simp; omega, HE.out⟩
    show Ending.returned (Value.string ((⟨(43 :: l).toArray⟩ : ByteArray).extract 1 (l.length + 1) ++ (⟨[105].toArray⟩ : ByteArray))) = _
    rw [tl_of, cat]
end Go.Proofs.YtjgjgjkffoagoaaDoor
