/- PairOf and EqualWithin of the program. -/
import Derived.Test.YtldcciipicnooaaDoorCurD
import Derived.Test.YtldcciipicnooaaDoorQuantW
namespace Go.Proofs.YtldcciipicnooaaDoor
open Go.RowKit

def pairF (z : Nat × Nat) (u : Nat × Bool) : Int × Int × Bool := if (quantF z.1 u).2 && (quantF z.2 u).2 then ((quantF z.1 u).1, (quantF z.2 u).1, true) else (0, 0, false)
def eqF (z y : Nat × Nat) (u : Nat × Bool) : Bool := (pairF z u).2.2 && (pairF y u).2.2 && ((pairF z u).1 == (pairF y u).1) && ((pairF z u).2.1 == (pairF y u).2.1)
theorem eqF_self (z : Nat × Nat) (u : Nat × Bool) : eqF z z u = (pairF z u).2.2 := by unfold eqF; simp
theorem eqF_comm (z y : Nat × Nat) (u : Nat × Bool) : eqF z y u = eqF y z u := by
  unfold eqF
  rw [Bool.eq_iff_iff]
  simp only [Bool.and_eq_true, beq_iff_eq]
  constructor
  · rintro ⟨⟨⟨a, b⟩, c⟩, d⟩; exact ⟨⟨⟨b, a⟩, c.symm⟩, d.symm⟩
  · rintro ⟨⟨⟨a, b⟩, c⟩, d⟩; exact ⟨⟨⟨b, a⟩, c.symm⟩, d.symm⟩
theorem eqF_trans {z y x : Nat × Nat} {u : Nat × Bool} (h : eqF z y u = true) (h' : eqF y x u = true) : eqF z x u = true := by
  unfold eqF at *
  simp only [Bool.and_eq_true, beq_iff_eq] at *
  obtain ⟨⟨⟨a, b⟩, c⟩, d⟩ := h
  obtain ⟨⟨⟨a', b'⟩, c'⟩, d'⟩ := h'
  exact ⟨⟨⟨a, b'⟩, c.trans c'⟩, d.trans d'⟩

def PrEnd (v : Int × Int × Bool) (w : World) (en : Ending) (w' : World) : Prop := en = .returned (.tuple #[.int .i64 v.1, .int .i64 v.2.1, .bool v.2.2]) ∧ Below w.heap.size w w'

set_option maxRecDepth 100000 in
theorem pairI_any (x y : Nat) (s : ByteArray) (m e : Int) (w : World) :
    Calls Tryd.prog 47 #[.complex .f32 x y, .agg #[.string s, .int .i64 m, .int .i64 e]] w (PrEnd (pairF (x, y) (unitF s.toList m e)) w) := by
  obtain ⟨v1, h1⟩ : ∃ v, quantF x (unitF s.toList m e) = v := ⟨_, rfl⟩
  obtain ⟨v2, h2⟩ : ∃ v, quantF y (unitF s.toList m e) = v := ⟨_, rfl⟩
  have HP : Hid (pairF (x, y) (unitF s.toList m e) = if v1.2 && v2.2 then (v1.1, v2.1, true) else (0, 0, false)) := Lib.hid (by unfold pairF; simp only [h1, h2])
  have H1 := Lib.hid h1
  have H2 := Lib.hid h2
  clear h1 h2
  obtain ⟨a, ok1⟩ := v1
  obtain ⟨b, ok2⟩ := v2
  have B0 := Blk.new w 38 #[.string s, .int .i64 m, .int .i64 e]
  cases ok1 <;> cases ok2
  · simp only [Bool.and_self, Bool.and_true, Bool.and_false, Bool.false_eq_true, if_true, if_false] at HP
    go_enter Tryd.func47, Tryd.ntmps47
    go_wp2_with (go_at_call 68; (with_reducible refine (quantI_any _ _ _ _ _).mono ?_); rintro en w' ⟨he, o5, oo5, n5, hw⟩; (first | rw [H1.out] at he | rw [H2.out] at he); subst he; subst hw)
    exact bodyPost_ret (v := .tuple #[.int .i64 0, .int .i64 0, .bool false]) (by simp [results, Tryd.results47, go_sem]) rfl ⟨by rw [HP.out], by repeat (first | exact Below.refl _ _ | assumption | refine bl_drewN ?_ _ | refine bl_drew ?_ | refine bl_alloc ?_ _ | refine bl_set ?_ (by first | (simp; done) | (simp; omega) | omega | (simp [World.setCell]; done) | (simp [World.setCell]; omega)) _ | refine bl_call ?_ (by assumption))⟩
  · simp only [Bool.and_self, Bool.and_true, Bool.and_false, Bool.false_eq_true, if_true, if_false] at HP
    go_enter Tryd.func47, Tryd.ntmps47
    go_wp2_with (go_at_call 68; (with_reducible refine (quantI_any _ _ _ _ _).mono ?_); rintro en w' ⟨he, o5, oo5, n5, hw⟩; (first | rw [H1.out] at he | rw [H2.out] at he); subst he; subst hw)
    exact bodyPost_ret (v := .tuple #[.int .i64 0, .int .i64 0, .bool false]) (by simp [results, Tryd.results47, go_sem]) rfl ⟨by rw [HP.out], by repeat (first | exact Below.refl _ _ | assumption | refine bl_drewN ?_ _ | refine bl_drew ?_ | refine bl_alloc ?_ _ | refine bl_set ?_ (by first | (simp; done) | (simp; omega) | omega | (simp [World.setCell]; done) | (simp [World.setCell]; omega)) _ | refine bl_call ?_ (by assumption))⟩
  · simp only [Bool.and_self, Bool.and_true, Bool.and_false, Bool.false_eq_true, if_true, if_false] at HP
    go_enter Tryd.func47, Tryd.ntmps47
    go_wp2_with (go_at_call 68; (with_reducible refine (quantI_any _ _ _ _ _).mono ?_); rintro en w' ⟨he, o5, oo5, n5, hw⟩; (first | rw [H1.out] at he | rw [H2.out] at he); subst he; subst hw)
    exact bodyPost_ret (v := .tuple #[.int .i64 0, .int .i64 0, .bool false]) (by simp [results, Tryd.results47, go_sem]) rfl ⟨by rw [HP.out], by repeat (first | exact Below.refl _ _ | assumption | refine bl_drewN ?_ _ | refine bl_drew ?_ | refine bl_alloc ?_ _ | refine bl_set ?_ (by first | (simp; done) | (simp; omega) | omega | (simp [World.setCell]; done) | (simp [World.setCell]; omega)) _ | refine bl_call ?_ (by assumption))⟩
  · simp only [Bool.and_self, Bool.and_true, Bool.and_false, Bool.false_eq_true, if_true, if_false] at HP
    go_enter Tryd.func47, Tryd.ntmps47
    go_wp2_with (go_at_call 68; (with_reducible refine (quantI_any _ _ _ _ _).mono ?_); rintro en w' ⟨he, o5, oo5, n5, hw⟩; (first | rw [H1.out] at he | rw [H2.out] at he); subst he; subst hw)
    exact bodyPost_ret (v := .tuple #[.int .i64 a, .int .i64 b, .bool true]) (by simp [results, Tryd.results47, go_sem]) rfl ⟨by rw [HP.out], by repeat (first | exact Below.refl _ _ | assumption | refine bl_drewN ?_ _ | refine bl_drew ?_ | refine bl_alloc ?_ _ | refine bl_set ?_ (by first | (simp; done) | (simp; omega) | omega | (simp [World.setCell]; done) | (simp [World.setCell]; omega)) _ | refine bl_call ?_ (by assumption))⟩

set_option maxRecDepth 100000 in
theorem equalWithin_any (x1 x2 y1 y2 : Nat) (s : ByteArray) (m e : Int) (w : World) :
    Calls Tryd.prog 46 #[.complex .f32 x1 x2, .complex .f32 y1 y2, .agg #[.string s, .int .i64 m, .int .i64 e]] w fun en w' => en = .returned (.bool (eqF (x1, x2) (y1, y2) (unitF s.toList m e))) ∧ Below w.heap.size w w' := by
  obtain ⟨v1, h1⟩ : ∃ v, pairF (x1, x2) (unitF s.toList m e) = v := ⟨_, rfl⟩
  obtain ⟨v2, h2⟩ : ∃ v, pairF (y1, y2) (unitF s.toList m e) = v := ⟨_, rfl⟩
  have HP : Hid (eqF (x1, x2) (y1, y2) (unitF s.toList m e) = (v1.2.2 && v2.2.2 && (v1.1 == v2.1) && (v1.2.1 == v2.2.1))) := Lib.hid (by unfold eqF; rw [h1, h2])
  have H1 := Lib.hid h1
  have H2 := Lib.hid h2
  clear h1 h2
  obtain ⟨a, b, ok1⟩ := v1
  obtain ⟨c, d, ok2⟩ := v2
  simp only at HP
  have B0 := Blk.new w 38 #[.string s, .int .i64 m, .int .i64 e]
  cases ok1 <;> cases ok2
  all_goals
    go_enter Tryd.func46, Tryd.ntmps46
    go_wp2_with (go_at_call 47; (with_reducible refine (pairI_any _ _ _ _ _ _).mono ?_); rintro en w' ⟨he, hb⟩; (first | rw [H1.out] at he | rw [H2.out] at he); subst he; (try (have B1 := Blk.below (by exact B0) hb (Blk.lt (by exact B0)); have u0 := B1.cell 0; have u1 := B1.cell 1; have u2 := B1.cell 2; simp only [List.getElem?_toArray, List.getElem?_cons_zero, List.getElem?_cons_succ] at u0 u1 u2)))
    all_goals
      go_ret
      refine ⟨?_, by repeat (first | exact Below.refl _ _ | assumption | refine bl_drewN ?_ _ | refine bl_drew ?_ | refine bl_alloc ?_ _ | refine bl_set ?_ (by first | (simp; done) | (simp; omega) | omega | (simp [World.setCell]; done) | (simp [World.setCell]; omega)) _ | refine bl_call ?_ (by assumption))⟩
      rw [HP.out]
      first | rfl | simp_all
end Go.Proofs.YtldcciipicnooaaDoor
