/- What a drawn expression is: a row of good nodes in the call's own memory that is an expression, of at most 31 nodes. Condition: the cursor's form. -/
import Derived.Test.YtjgjgjkffoagoaaDoorNd
namespace Go.Proofs.YtjgjgjkffoagoaaDoor
open Go.RowKit
set_option maxRecDepth 100000
set_option maxHeartbeats 4000000
set_option linter.unusedVariables false
set_option linter.unusedSimpArgs false

theorem l08Value_any (c : Nat) (w : World) (H : CurOk c w) :
    Calls Tryd.prog 33 #[.pointer (some ⟨c, 0, none⟩)] w fun e w' => ∃ re im, e = .returned (.complex .f64 re im) ∧ GoodV re im ∧ CurEnd c w w' := by
  have hc := H.lt
  go_enter Tryd.func33, Tryd.ntmps33
  go_wp2_with (first | (go_at_call 34; (with_reducible refine (l01PickInt_any c _ 8 _ [0, 1, 1, 3, 5, 7, 1000, 16777215] _ (H.below (by repeat (first | exact Below.refl _ _ | assumption | refine bl_drewN ?_ _ | refine bl_drew ?_ | refine bl_alloc ?_ _ | refine bl_set ?_ (by first | (simp; done) | (simp; omega) | omega | (simp [World.setCell]; done) | (simp [World.setCell]; omega)) _ | refine bl_call ?_ (by assumption)))) (by with_unfolding_all rfl) (by decide) (by decide) (by decide) (Blk.new_at _ _ _ rfl) (by omega)).mono ?_); rintro e w1 ⟨m, _, rfl, hc1, hk1⟩; have hz1 := hc1.lt) | (go_at_call 34; (with_reducible refine (l01PickInt_any c _ 9 _ [0, 0, 0, 1, -1, -2, -10, 100, -149] _ (hc1.below (by repeat (first | exact Below.refl _ _ | assumption | refine bl_drewN ?_ _ | refine bl_drew ?_ | refine bl_alloc ?_ _ | refine bl_set ?_ (by first | (simp; done) | (simp; omega) | omega | (simp [World.setCell]; done) | (simp [World.setCell]; omega)) _ | refine bl_call ?_ (by assumption)))) (by with_unfolding_all rfl) (by decide) (by decide) (by decide) (Blk.new_at _ _ _ rfl) (by omega)).mono ?_); rintro e w2 ⟨x, _, rfl, hc2, hk2⟩; have hz2 := hc2.lt) | (go_at_call 53; (with_reducible refine (makeS_any _ _ _ _).mono ?_); rintro e w3 ⟨rfl, n3, rfl⟩; have HC2 : CurOk c (w2.drewN n3) := hc2.below (by repeat (first | exact Below.refl _ _ | assumption | refine bl_drewN ?_ _ | refine bl_drew ?_ | refine bl_alloc ?_ _ | refine bl_set ?_ (by first | (simp; done) | (simp; omega) | omega | (simp [World.setCell]; done) | (simp [World.setCell]; omega)) _ | refine bl_call ?_ (by assumption)))) | (refine wpl_farith 17 rfl rfl rfl rfl rfl rfl ?_; intro r1 n1 hr1))
  all_goals
    go_at_call 31
    refine (l01Once_i c _ 3 _ (by first | assumption | exact CurOk.below (by assumption) (by repeat (first | exact Below.refl _ _ | assumption | refine bl_drewN ?_ _ | refine bl_drew ?_ | refine bl_alloc ?_ _ | refine bl_set ?_ (by first | (simp; done) | (simp; omega) | omega | (simp [World.setCell]; done) | (simp [World.setCell]; omega)) _ | refine bl_call ?_ (by assumption)))) (by decide) (by decide) (by decide)).mono ?_
    rintro e w4 ⟨k4, rfl, hc4, hk4⟩
    have hz4 := hc4.lt
    cases k4
    all_goals
      go_wp2_with (first | (refine wpl_widen 26 Tryd.underlying73 Tryd.underlying65 rfl rfl rfl rfl ?_; intro r2 n2 hr2) | (refine wpl_widen 29 Tryd.underlying73 Tryd.underlying65 rfl rfl rfl rfl ?_; intro r2 n2 hr2))
      all_goals
        go_ret
        refine ⟨_, _, rfl, ?_, (by first | assumption | exact CurOk.below (by assumption) (by repeat (first | exact Below.refl _ _ | assumption | refine bl_drewN ?_ _ | refine bl_drew ?_ | refine bl_alloc ?_ _ | refine bl_set ?_ (by first | (simp; done) | (simp; omega) | omega | (simp [World.setCell]; done) | (simp [World.setCell]; omega)) _ | refine bl_call ?_ (by assumption)))), by repeat (first | exact Kept.refl _ _ | assumption | refine kp_drewN ?_ _ | refine kp_alloc ?_ _ | refine kp_set ?_ _ _ | refine kp_bl ?_ (by assumption) | refine kp_call ?_ (by assumption) | refine kp_drew ?_)⟩
        first
        | exact Or.inl ⟨good_widen good_one hr2.out.1 hr2.out.2, rfl⟩
        | exact Or.inl ⟨good_widen (good_make _ _) hr2.out.1 hr2.out.2, rfl⟩
        | exact Or.inr ⟨rfl, good_widen good_one hr2.out.1 hr2.out.2⟩
        | exact Or.inr ⟨rfl, good_widen (good_make _ _) hr2.out.1 hr2.out.2⟩
end Go.Proofs.YtjgjgjkffoagoaaDoor
