/- NodeOk answers true at a drawn node, the program's and the reference's. Condition: the node is a drawn one. -/
import Derived.Test.YtjgjgjkffoagoaaDoorGood
namespace Go.Proofs.YtjgjgjkffoagoaaDoor
open Go.RowKit
set_option maxRecDepth 100000
set_option maxHeartbeats 4000000
set_option linter.unusedVariables false
set_option linter.unusedSimpArgs false

theorem nodeOkI_num (re im : Nat) (h : GoodV re im) (w : World) :
    Calls Tryd.prog 40 #[ndV ⟨1, 0, re, im⟩] w fun e w' => e = .returned (.bool true) ∧ Below w.heap.size w w' := by
  obtain ⟨h1, h2⟩ := h.both
  have hz : (FloatKind.f64.format.order re 0 == some .eq || FloatKind.f64.format.order im 0 == some .eq) = true := by
    rcases h with ⟨_, rfl⟩ | ⟨rfl, _⟩
    · rw [show (FloatKind.f64.format.order 0 0 == some .eq) = true by kernel_rfl, Bool.or_true]
    · rw [show (FloatKind.f64.format.order 0 0 == some .eq) = true by kernel_rfl, Bool.true_or]
  go_enter Tryd.func40, Tryd.ntmps40
  cases hq : (FloatKind.f64.format.order re 0 == some .eq)
  all_goals
    first
    | (have hq2 : (FloatKind.f64.format.order im 0 == some .eq) = true := by rw [hq, Bool.false_or] at hz; exact hz)
    | skip
    go_wp2_with fail
    go_at_call 39
    refine (within_is _ _ _ true _ (by decide)).mono ?_
    rintro e w1 ⟨rfl, hw⟩
    subst hw
    go_wp2_with (go_at_call 39; (with_reducible refine (within_is _ _ _ true _ (by decide)).mono ?_); rintro e w1 ⟨rfl, hw⟩; subst hw)
    go_region
    go_wp2_with (first | (go_at_call 61; (with_reducible refine (partOk_good re _ h1).mono ?_); rintro e w1 ⟨rfl, n1, hw⟩; subst hw) | (go_at_call 61; (with_reducible refine (partOk_good im _ h2).mono ?_); rintro e w1 ⟨rfl, n2, hw⟩; subst hw))
    go_ret
    exact ⟨rfl, by repeat (first | exact Below.refl _ _ | assumption | refine bl_drewN ?_ _ | refine bl_drew ?_ | refine bl_alloc ?_ _ | refine bl_set ?_ (by first | (simp; done) | (simp; omega) | omega | (simp [World.setCell]; done) | (simp [World.setCell]; omega)) _ | refine bl_call ?_ (by assumption))⟩

theorem nodeOkI_oth (k s : Int) (h : (k = 2 ∧ 0 ≤ s ∧ s ≤ 3) ∨ (3 ≤ k ∧ k ≤ 12 ∧ s = 0)) (w : World) :
    Calls Tryd.prog 40 #[ndV ⟨k, s, 0, 0⟩] w fun e w' => e = .returned (.bool true) ∧ Below w.heap.size w w' := by
  have h1 : (decide (1 ≤ k) && decide (k ≤ 12)) = true := by simp; omega
  have h2 : (decide (0 ≤ s) && decide (s ≤ 9)) = true := by simp; omega
  have h3 : (k == 1) = false := beq_eq_false_iff_ne.2 (by omega)
  have h4 : (k != 1) = true := by unfold bne; rw [h3]; rfl
  go_enter Tryd.func40, Tryd.ntmps40
  rcases h with ⟨rfl, hs⟩ | ⟨hk, hk', rfl⟩
  · go_wp2_with (first | (go_at_call 39; (with_reducible refine (within_is _ _ _ true _ (by decide)).mono ?_); rintro e w1 ⟨rfl, hw⟩; subst hw) | (go_at_call 39; (with_reducible refine (within_is _ _ _ true _ h2).mono ?_); rintro e w1 ⟨rfl, hw⟩; subst hw) | (go_at_call 60; (with_reducible refine (sameC_self _ _ _ FinW.zero FinW.zero).mono ?_); rintro e w1 ⟨rfl, hw⟩; subst hw))
    go_ret
    exact ⟨rfl, by repeat (first | exact Below.refl _ _ | assumption | refine bl_drewN ?_ _ | refine bl_drew ?_ | refine bl_alloc ?_ _ | refine bl_set ?_ (by first | (simp; done) | (simp; omega) | omega | (simp [World.setCell]; done) | (simp [World.setCell]; omega)) _ | refine bl_call ?_ (by assumption))⟩
  · have h5 : (k == 2) = false := beq_eq_false_iff_ne.2 (by omega)
    have h6 : (k != 2) = true := by unfold bne; rw [h5]; rfl
    go_wp2_with (first | (go_at_call 39; (with_reducible refine (within_is _ _ _ true _ h1).mono ?_); rintro e w1 ⟨rfl, hw⟩; subst hw) | (go_at_call 39; (with_reducible refine (within_is _ _ _ true _ (by decide)).mono ?_); rintro e w1 ⟨rfl, hw⟩; subst hw) | (go_at_call 60; (with_reducible refine (sameC_self _ _ _ FinW.zero FinW.zero).mono ?_); rintro e w1 ⟨rfl, hw⟩; subst hw))
    go_ret
    exact ⟨rfl, by repeat (first | exact Below.refl _ _ | assumption | refine bl_drewN ?_ _ | refine bl_drew ?_ | refine bl_alloc ?_ _ | refine bl_set ?_ (by first | (simp; done) | (simp; omega) | omega | (simp [World.setCell]; done) | (simp [World.setCell]; omega)) _ | refine bl_call ?_ (by assumption))⟩
theorem nodeOkI (x : Nd) (h : GoodN x) (w : World) :
    Calls Tryd.prog 40 #[ndV x] w fun e w' => e = .returned (.bool true) ∧ Below w.heap.size w w' := by
  obtain ⟨k, s, re, im⟩ := x
  rcases h with ⟨h1, h2, h3⟩ | ⟨h1, h2, h3, h4⟩ | ⟨h1, h2, h3, h4⟩
  · simp only at h1 h2 h3
    subst h1 h2
    exact nodeOkI_num re im h3 w
  · simp only at h1 h2 h3 h4
    subst h3 h4
    exact nodeOkI_oth k s (Or.inl ⟨h1, h2.1, h2.2⟩) w
  · simp only at h1 h2 h3 h4
    subst h3 h4
    exact nodeOkI_oth k s (Or.inr ⟨h1.1, h1.2, h2⟩) w

theorem nodeOkS_num (re im : Nat) (h : GoodV re im) (w : World) :
    Calls Tryd.prog 49 #[ndV ⟨1, 0, re, im⟩] w fun e w' => e = .returned (.bool true) ∧ Below w.heap.size w w' := by
  obtain ⟨h1, h2⟩ := h.both
  have hz : (FloatKind.f64.format.order re 0 == some .eq || FloatKind.f64.format.order im 0 == some .eq) = true := by
    rcases h with ⟨_, rfl⟩ | ⟨rfl, _⟩
    · rw [show (FloatKind.f64.format.order 0 0 == some .eq) = true by kernel_rfl, Bool.or_true]
    · rw [show (FloatKind.f64.format.order 0 0 == some .eq) = true by kernel_rfl, Bool.true_or]
  go_enter Tryd.func49, Tryd.ntmps49
  cases hq : (FloatKind.f64.format.order re 0 == some .eq)
  all_goals
    first
    | (have hq2 : (FloatKind.f64.format.order im 0 == some .eq) = true := by rw [hq, Bool.false_or] at hz; exact hz)
    | skip
    go_wp2_with (first | (go_at_call 48; (with_reducible refine (l01In_is _ _ _ true _ (by decide)).mono ?_); rintro e w1 ⟨rfl, hw⟩; subst hw) | (go_at_call 70; (with_reducible refine (l08Part_good re _ h1).mono ?_); rintro e w1 ⟨rfl, n1, hw⟩; subst hw) | (go_at_call 70; (with_reducible refine (l08Part_good im _ h2).mono ?_); rintro e w1 ⟨rfl, n2, hw⟩; subst hw))
    go_ret
    exact ⟨rfl, by repeat (first | exact Below.refl _ _ | assumption | refine bl_drewN ?_ _ | refine bl_drew ?_ | refine bl_alloc ?_ _ | refine bl_set ?_ (by first | (simp; done) | (simp; omega) | omega | (simp [World.setCell]; done) | (simp [World.setCell]; omega)) _ | refine bl_call ?_ (by assumption))⟩
theorem nodeOkS_oth (k s : Int) (h : (k = 2 ∧ 0 ≤ s ∧ s ≤ 3) ∨ (3 ≤ k ∧ k ≤ 12 ∧ s = 0)) (w : World) :
    Calls Tryd.prog 49 #[ndV ⟨k, s, 0, 0⟩] w fun e w' => e = .returned (.bool true) ∧ Below w.heap.size w w' := by
  have h1 : (decide (1 ≤ k) && decide (k ≤ 12)) = true := by simp; omega
  have h2 : (decide (0 ≤ s) && decide (s ≤ 9)) = true := by simp; omega
  have h3 : (k == 1) = false := beq_eq_false_iff_ne.2 (by omega)
  have h4 : (k != 1) = true := by unfold bne; rw [h3]; rfl
  go_enter Tryd.func49, Tryd.ntmps49
  rcases h with ⟨rfl, hs⟩ | ⟨hk, hk', rfl⟩
  · go_wp2_with (first | (go_at_call 48; (with_reducible refine (l01In_is _ _ _ true _ (by decide)).mono ?_); rintro e w1 ⟨rfl, hw⟩; subst hw) | (go_at_call 48; (with_reducible refine (l01In_is _ _ _ true _ h2).mono ?_); rintro e w1 ⟨rfl, hw⟩; subst hw) | (go_at_call 69; (with_reducible refine (sameC_selfS _ _ _ FinW.zero FinW.zero).mono ?_); rintro e w1 ⟨rfl, n3, hw⟩; subst hw))
    go_ret
    exact ⟨rfl, by repeat (first | exact Below.refl _ _ | assumption | refine bl_drewN ?_ _ | refine bl_drew ?_ | refine bl_alloc ?_ _ | refine bl_set ?_ (by first | (simp; done) | (simp; omega) | omega | (simp [World.setCell]; done) | (simp [World.setCell]; omega)) _ | refine bl_call ?_ (by assumption))⟩
  · have h5 : (k == 2) = false := beq_eq_false_iff_ne.2 (by omega)
    have h6 : (k != 2) = true := by unfold bne; rw [h5]; rfl
    go_wp2_with (first | (go_at_call 48; (with_reducible refine (l01In_is _ _ _ true _ h1).mono ?_); rintro e w1 ⟨rfl, hw⟩; subst hw) | (go_at_call 48; (with_reducible refine (l01In_is _ _ _ true _ (by decide)).mono ?_); rintro e w1 ⟨rfl, hw⟩; subst hw) | (go_at_call 69; (with_reducible refine (sameC_selfS _ _ _ FinW.zero FinW.zero).mono ?_); rintro e w1 ⟨rfl, n3, hw⟩; subst hw))
    go_ret
    exact ⟨rfl, by repeat (first | exact Below.refl _ _ | assumption | refine bl_drewN ?_ _ | refine bl_drew ?_ | refine bl_alloc ?_ _ | refine bl_set ?_ (by first | (simp; done) | (simp; omega) | omega | (simp [World.setCell]; done) | (simp [World.setCell]; omega)) _ | refine bl_call ?_ (by assumption))⟩
theorem nodeOkS (x : Nd) (h : GoodN x) (w : World) :
    Calls Tryd.prog 49 #[ndV x] w fun e w' => e = .returned (.bool true) ∧ Below w.heap.size w w' := by
  obtain ⟨k, s, re, im⟩ := x
  rcases h with ⟨h1, h2, h3⟩ | ⟨h1, h2, h3, h4⟩ | ⟨h1, h2, h3, h4⟩
  · simp only at h1 h2 h3
    subst h1 h2
    exact nodeOkS_num re im h3 w
  · simp only at h1 h2 h3 h4
    subst h3 h4
    exact nodeOkS_oth k s (Or.inl ⟨h1, h2.1, h2.2⟩) w
  · simp only at h1 h2 h3 h4
    subst h3 h4
    exact nodeOkS_oth k s (Or.inr ⟨h1.1, h1.2, h2⟩) w
end Go.Proofs.YtjgjgjkffoagoaaDoor
