/- The draws of numbers near a unit: that they come back with what has the form. -/
import Derived.Test.YtldcciipicnooaaDoorCurD
import Derived.Deep.RegionWith
namespace Go.Proofs.YtldcciipicnooaaDoor
open Go.RowKit
attribute [local go_sem] run_neg_float run_neg_complex

set_option maxRecDepth 100000 in
theorem l01Mild_any (c : Nat) (w : World) (H : CurOk c w) :
    Calls Tryd.prog 98 #[.pointer (some ⟨c, 0, none⟩)] w fun e w' => ∃ x, e = .returned (.float .f32 x) ∧ CurEnd c w w' := by
  have hc := H.lt
  go_enter Tryd.func98, Tryd.ntmps98
  go_wp2_with (first | (go_at_call 38; (with_reducible refine (l01Below_i c _ 400 _ (by assumption) (by decide) (by decide) (by decide)).mono ?_); rintro e w1 ⟨k, rfl, hk0, hc1, hk1⟩; have hz1 := hc1.lt) | (go_at_call 37; (with_reducible refine (l01PickInt_any c _ 7 _ [1, 1, 2, 4, 3, 10, 16] _ (hc1.below (by repeat (first | exact Below.refl _ _ | assumption | refine bl_drewN ?_ _ | refine bl_drew ?_ | refine bl_alloc ?_ _ | refine bl_set ?_ (by first | (simp; done) | (simp; omega) | omega | (simp [World.setCell]; done) | (simp [World.setCell]; omega)) _ | refine bl_call ?_ (by assumption)))) (by with_unfolding_all rfl) (by decide) (by decide) (by decide) (Blk.new_at _ _ _ rfl) (by omega)).mono ?_); rintro e w2 ⟨m, hm, rfl, hc2, hk2⟩; have hz2 := hc2.lt) | (refine wpl_farith 11 rfl rfl rfl rfl rfl rfl ?_; intro r1 n1 hr1))
  go_ret
  exact ⟨_, rfl, hc2, by repeat (first | exact Kept.refl _ _ | assumption | refine kp_drewN ?_ _ | refine kp_alloc ?_ _ | refine kp_set ?_ _ _ | refine kp_bl ?_ (by assumption) | refine kp_call ?_ (by assumption) | refine kp_drew ?_)⟩
set_option maxRecDepth 100000 in
theorem l01Single_any (c : Nat) (w : World) (H : CurOk c w) :
    Calls Tryd.prog 85 #[.pointer (some ⟨c, 0, none⟩)] w fun e w' => ∃ x, e = .returned (.float .f32 x) ∧ CurEnd c w w' := by
  have hc := H.lt
  go_enter Tryd.func85, Tryd.ntmps85
  go_wp2_with (first | (go_at_call 38; (with_reducible refine (l01Below_i c _ 16 _ (by first | assumption | exact CurOk.below (by assumption) (by repeat (first | exact Below.refl _ _ | assumption | refine bl_drewN ?_ _ | refine bl_drew ?_ | refine bl_alloc ?_ _ | refine bl_set ?_ (by first | (simp; done) | (simp; omega) | omega | (simp [World.setCell]; done) | (simp [World.setCell]; omega)) _ | refine bl_call ?_ (by assumption)))) (by decide) (by decide) (by decide)).mono ?_); rintro e w1 ⟨k1, rfl, hk10, hc1, hk1⟩; have hz1 := hc1.lt) | (go_at_call 38; (with_reducible refine (l01Below_i c _ 16777215 _ (by first | assumption | exact CurOk.below (by assumption) (by repeat (first | exact Below.refl _ _ | assumption | refine bl_drewN ?_ _ | refine bl_drew ?_ | refine bl_alloc ?_ _ | refine bl_set ?_ (by first | (simp; done) | (simp; omega) | omega | (simp [World.setCell]; done) | (simp [World.setCell]; omega)) _ | refine bl_call ?_ (by assumption)))) (by decide) (by decide) (by decide)).mono ?_); rintro e w2 ⟨k2, rfl, hk20, hc2, hk2⟩; have hz2 := hc2.lt) | (go_at_call 38; (with_reducible refine (l01Below_i c _ 230 _ (by first | assumption | exact CurOk.below (by assumption) (by repeat (first | exact Below.refl _ _ | assumption | refine bl_drewN ?_ _ | refine bl_drew ?_ | refine bl_alloc ?_ _ | refine bl_set ?_ (by first | (simp; done) | (simp; omega) | omega | (simp [World.setCell]; done) | (simp [World.setCell]; omega)) _ | refine bl_call ?_ (by assumption)))) (by decide) (by decide) (by decide)).mono ?_); rintro e w3 ⟨k3, rfl, hk30, hc3, hk3⟩; have hz3 := hc3.lt) | (go_at_call 38; (with_reducible refine (l01Below_i c _ 40 _ (by first | assumption | exact CurOk.below (by assumption) (by repeat (first | exact Below.refl _ _ | assumption | refine bl_drewN ?_ _ | refine bl_drew ?_ | refine bl_alloc ?_ _ | refine bl_set ?_ (by first | (simp; done) | (simp; omega) | omega | (simp [World.setCell]; done) | (simp [World.setCell]; omega)) _ | refine bl_call ?_ (by assumption)))) (by decide) (by decide) (by decide)).mono ?_); rintro e w3 ⟨k3, rfl, hk30, hc3, hk3⟩; have hz3 := hc3.lt) | (refine wpl_farith 22 rfl rfl rfl rfl rfl rfl ?_; intro r1 n1 hr1) | (refine wpl_farith 26 rfl rfl rfl rfl rfl rfl ?_; intro r1 n1 hr1) | (refine wpl_farith 31 rfl rfl rfl rfl rfl rfl ?_; intro r1 n1 hr1) | (go_at_call 49; (with_reducible refine (makeS_any _ _ _ _).mono ?_); rintro e w4 ⟨rfl, n4, rfl⟩) | (go_at_call 98; (with_reducible refine (l01Mild_any c _ (by assumption)).mono ?_); rintro e w5 ⟨x5, rfl, hc5, hk5⟩))
  all_goals
    go_ret
    refine ⟨_, rfl, ?_, by repeat (first | exact Kept.refl _ _ | assumption | refine kp_drewN ?_ _ | refine kp_alloc ?_ _ | refine kp_set ?_ _ _ | refine kp_bl ?_ (by assumption) | refine kp_call ?_ (by assumption) | refine kp_drew ?_)⟩
    first | assumption | (refine CurOk.below ?_ (by repeat (first | exact Below.refl _ _ | assumption | refine bl_drewN ?_ _ | refine bl_drew ?_ | refine bl_alloc ?_ _ | refine bl_set ?_ (by first | (simp; done) | (simp; omega) | omega | (simp [World.setCell]; done) | (simp [World.setCell]; omega)) _ | refine bl_call ?_ (by assumption))); assumption)
def IuEnd (w : World) (en : Ending) (w' : World) : Prop := ∃ x b, en = .returned (.tuple #[.float .f32 x, .bool b]) ∧ Below w.heap.size w w'
set_option maxRecDepth 100000 in
theorem inUnitsS_any (n : Int) (s : ByteArray) (m e : Int) (w : World) :
    Calls Tryd.prog 84 #[.int .i64 n, .agg #[.string s, .int .i64 m, .int .i64 e]] w (IuEnd w) := by
  obtain ⟨u, hu⟩ : ∃ u, unitF s.toList m e = u := ⟨_, rfl⟩
  obtain ⟨t, ht⟩ : ∃ t, (decide ((-1000000000 : Int) ≤ n) && decide (n ≤ 1000000000)) = t := ⟨_, rfl⟩
  have HU := Lib.hid hu
  have HT := Lib.hid ht
  clear hu ht
  obtain ⟨v, ok⟩ := u
  cases ok <;> cases t
  all_goals
    go_enter Tryd.func84, Tryd.ntmps84
    go_wp2_with (first | (go_at_call 21; (with_reducible refine (unitS_any _ _ _ _).mono ?_); rintro en w' ⟨he, o, n1, hw⟩; rw [HU.out] at he; subst he; subst hw) | (go_at_call 27; (with_reducible refine (l01In_any _ _ _ _).mono ?_); rw [HT.out]; rintro e w8 ⟨rfl, hw9⟩; have hw9x := hw9.symm; clear hw9; subst hw9x) | (refine wpl_widen 24 Tryd.underlying46 Tryd.underlying92 rfl rfl rfl rfl ?_; intro r2 n2 hr2) | (refine wpl_farith 25 rfl rfl rfl rfl rfl rfl ?_; intro r3 n3 hr3) | (refine wpl_narrow 26 Tryd.underlying92 Tryd.underlying46 rfl rfl rfl rfl ?_; intro r4 n4 hr4) | (refine wpl_widen 28 Tryd.underlying46 Tryd.underlying92 rfl rfl rfl rfl ?_; intro r5 n5 hr5) | (go_at_call 97; (with_reducible refine (l01Fine_any _ _).mono ?_); rintro e w9 ⟨rfl, m9, rfl⟩))
  all_goals
    go_ret2
    exact ⟨_, _, rfl, by repeat (first | exact Below.refl _ _ | assumption | refine bl_drewN ?_ _ | refine bl_drew ?_ | refine bl_alloc ?_ _ | refine bl_set ?_ (by first | (simp; done) | (simp; omega) | omega | (simp [World.setCell]; done) | (simp [World.setCell]; omega)) _ | refine bl_call ?_ (by assumption))⟩

theorem kp_drew {c : Nat} {a b : World} (h : Kept c a b) : Kept c a b.drew := ⟨h.os, h.tape, h.output, h.size, h.block⟩
theorem CurOk.kp {c : Nat} {w w' : World} (h : CurOk c w) (hb : Below w.heap.size w w') : CurOk c w' := h.below hb
set_option maxRecDepth 100000 in
set_option maxHeartbeats 1000000 in
theorem l10Near_any (c : Nat) (s : ByteArray) (m e : Int) (w : World) (H : CurOk c w) :
    Calls Tryd.prog 67 #[.pointer (some ⟨c, 0, none⟩), .agg #[.string s, .int .i64 m, .int .i64 e]] w fun en w' => ∃ x, en = .returned (.float .f32 x) ∧ CurEnd c w w' := by
  have hc := H.lt
  go_enter Tryd.func67, Tryd.ntmps67
  go_wp2
  have B0 := Blk.new w 38 #[.string s, .int .i64 m, .int .i64 e]
  go_region_with (first | (go_at_call 38; (with_reducible refine (l01Below_i c _ 40 _ (by first | assumption | exact CurOk.below (by assumption) (by repeat (first | exact Below.refl _ _ | assumption | refine bl_drewN ?_ _ | refine bl_drew ?_ | refine bl_alloc ?_ _ | refine bl_set ?_ (by first | (simp; done) | (simp; omega) | omega | (simp [World.setCell]; done) | (simp [World.setCell]; omega)) _ | refine bl_call ?_ (by assumption)))) (by decide) (by decide) (by decide)).mono ?_); rintro e w1 ⟨k1, rfl, hk10, hc1, hk1⟩; have hz1 := hc1.lt; have B1 := Blk.kept (by exact B0) hk1 (by omega); have g0 := B1.cell 0; have g1 := B1.cell 1; have g2 := B1.cell 2; simp only [List.getElem?_toArray, List.getElem?_cons_zero, List.getElem?_cons_succ] at g0 g1 g2) | (go_at_call 84; (with_reducible refine (inUnitsS_any _ _ _ _ _).mono ?_); rintro e w2 ⟨x2, b2, rfl, hb2⟩))
  all_goals
    have hc2 : CurOk c w2 := CurOk.below (by assumption) hb2
    have B2 := Blk.below (by assumption) hb2 (Blk.lt (by assumption))
    have u0 := B2.cell 0
    have u1 := B2.cell 1
    have u2 := B2.cell 2
    simp only [List.getElem?_toArray, List.getElem?_cons_zero, List.getElem?_cons_succ] at u0 u1 u2
    cases b2
    all_goals
      go_wp2_with (first | (go_at_call 21; (with_reducible refine (unitS_any _ _ _ _).mono ?_); rintro en w' ⟨rfl, o, n1, rfl⟩) | (go_at_call 44; (with_reducible refine (l01Once_i c _ 4 _ (by first | assumption | exact CurOk.below (by assumption) (by repeat (first | exact Below.refl _ _ | assumption | refine bl_drewN ?_ _ | refine bl_drew ?_ | refine bl_alloc ?_ _ | refine bl_set ?_ (by first | (simp; done) | (simp; omega) | omega | (simp [World.setCell]; done) | (simp [World.setCell]; omega)) _ | refine bl_call ?_ (by assumption)))) (by decide) (by decide) (by decide)).mono ?_); rintro e w3 ⟨k3, rfl, hc3, hk3⟩; have hz3 := hc3.lt) | (go_at_call 38; (with_reducible refine (l01Below_i c _ 4 _ (by first | assumption | exact CurOk.below (by assumption) (by repeat (first | exact Below.refl _ _ | assumption | refine bl_drewN ?_ _ | refine bl_drew ?_ | refine bl_alloc ?_ _ | refine bl_set ?_ (by first | (simp; done) | (simp; omega) | omega | (simp [World.setCell]; done) | (simp [World.setCell]; omega)) _ | refine bl_call ?_ (by assumption)))) (by decide) (by decide) (by decide)).mono ?_); rintro e w4 ⟨k4, rfl, hk40, hc4, hk4⟩; have hz4 := hc4.lt) | (go_at_call 85; (with_reducible refine (l01Single_any c _ (by first | assumption | exact CurOk.below (by assumption) (by repeat (first | exact Below.refl _ _ | assumption | refine bl_drewN ?_ _ | refine bl_drew ?_ | refine bl_alloc ?_ _ | refine bl_set ?_ (by first | (simp; done) | (simp; omega) | omega | (simp [World.setCell]; done) | (simp [World.setCell]; omega)) _ | refine bl_call ?_ (by assumption))))).mono ?_); rintro e w5 ⟨x5, rfl, hc5, hk5⟩; have hz5 := hc5.lt) | (refine wpl_farith 36 rfl rfl rfl rfl rfl rfl ?_; intro r36 n36 hr36) | (refine wpl_farith 37 rfl rfl rfl rfl rfl rfl ?_; intro r37 n37 hr37) | (refine wpl_farith 42 rfl rfl rfl rfl rfl rfl ?_; intro r42 n42 hr42) | (refine wpl_farith 43 rfl rfl rfl rfl rfl rfl ?_; intro r43 n43 hr43))
    all_goals
      go_ret
      exact ⟨_, rfl, (by first | assumption | exact CurOk.below (by assumption) (by repeat (first | exact Below.refl _ _ | assumption | refine bl_drewN ?_ _ | refine bl_drew ?_ | refine bl_alloc ?_ _ | refine bl_set ?_ (by first | (simp; done) | (simp; omega) | omega | (simp [World.setCell]; done) | (simp [World.setCell]; omega)) _ | refine bl_call ?_ (by assumption)))), by repeat (first | exact Kept.refl _ _ | assumption | refine kp_drewN ?_ _ | refine kp_alloc ?_ _ | refine kp_set ?_ _ _ | refine kp_bl ?_ (by assumption) | refine kp_call ?_ (by assumption) | refine kp_drew ?_)⟩

set_option maxRecDepth 100000 in
theorem l10Number2_any (c : Nat) (s : ByteArray) (m e : Int) (w : World) (H : CurOk c w) :
    Calls Tryd.prog 45 #[.pointer (some ⟨c, 0, none⟩), .agg #[.string s, .int .i64 m, .int .i64 e]] w fun en w' => ∃ x y, en = .returned (.complex .f32 x y) ∧ CurEnd c w w' := by
  have hc := H.lt
  have B0 := Blk.new w 38 #[.string s, .int .i64 m, .int .i64 e]
  go_enter Tryd.func45, Tryd.ntmps45
  go_wp2_with (go_at_call 67; (with_reducible refine (l10Near_any c _ _ _ _ (by first | assumption | exact CurOk.below (by assumption) (by repeat (first | exact Below.refl _ _ | assumption | refine bl_drewN ?_ _ | refine bl_drew ?_ | refine bl_alloc ?_ _ | refine bl_set ?_ (by first | (simp; done) | (simp; omega) | omega | (simp [World.setCell]; done) | (simp [World.setCell]; omega)) _ | refine bl_call ?_ (by assumption))))).mono ?_); rintro en w1 ⟨x, rfl, hc1, hk1⟩; have hz1 := hc1.lt; (try (have B1 := Blk.kept (by exact B0) hk1 (by omega); have u0 := B1.cell 0; have u1 := B1.cell 1; have u2 := B1.cell 2; simp only [List.getElem?_toArray, List.getElem?_cons_zero, List.getElem?_cons_succ] at u0 u1 u2)))
  go_ret
  exact ⟨_, _, rfl, (by first | assumption | exact CurOk.below (by assumption) (by repeat (first | exact Below.refl _ _ | assumption | refine bl_drewN ?_ _ | refine bl_drew ?_ | refine bl_alloc ?_ _ | refine bl_set ?_ (by first | (simp; done) | (simp; omega) | omega | (simp [World.setCell]; done) | (simp [World.setCell]; omega)) _ | refine bl_call ?_ (by assumption)))), by repeat (first | exact Kept.refl _ _ | assumption | refine kp_drewN ?_ _ | refine kp_alloc ?_ _ | refine kp_set ?_ _ _ | refine kp_bl ?_ (by assumption) | refine kp_call ?_ (by assumption) | refine kp_drew ?_)⟩
end Go.Proofs.YtldcciipicnooaaDoor
