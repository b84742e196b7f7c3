/- The walks of the small span functions. -/
import Derived.Test.YtldcciipicnooaaSf
namespace Go.Proofs.Ytldcciipicnooaa
open Go.RowKit
attribute [local go_sem] run_store_float run_store_complex

def lt32 (a b : Nat) : Bool := FloatKind.f32.format.order a b == some .lt
def gt32 (a b : Nat) : Bool := FloatKind.f32.format.order a b == some .gt
def spOk (a b : Nat) : Bool := FloatKind.f32.format.order a b == some .lt || FloatKind.f32.format.order a b == some .eq
def meetF (a0 a1 b0 b1 : Nat) : (Nat × Nat) × Bool :=
  if spOk a0 a1 && spOk b0 b1 && spOk (if gt32 b0 a0 then b0 else a0) (if lt32 b1 a1 then b1 else a1)
  then ((if gt32 b0 a0 then b0 else a0, if lt32 b1 a1 then b1 else a1), true) else ((0, 0), false)
def hullF (a0 a1 b0 b1 : Nat) : (Nat × Nat) × Bool :=
  if spOk a0 a1 && spOk b0 b1 then ((if lt32 b0 a0 then b0 else a0, if gt32 b1 a1 then b1 else a1), true) else ((0, 0), false)
def spanV (a b : Nat) : Value := .agg #[.float .f32 a, .float .f32 b]
def spanR (r : (Nat × Nat) × Bool) : Value := .tuple #[.agg #[.float .f32 r.1.1, .float .f32 r.1.2], .bool r.2]

theorem spanOk_ex (a b : Nat) (w : World) :
    Calls Try.prog 29 #[.agg #[.float .f32 a, .float .f32 b]] w fun e w' => e = .returned (.bool (spOk a b)) ∧ w' = w.alloc (.cells #[.float .f32 a, .float .f32 b] 26) := by
  go_enter Try.func29, Try.ntmps29
  go_wp2
  go_ret
  exact ⟨rfl, rfl⟩
theorem spanOkS_ex (a b : Nat) (w : World) :
    Calls Try.prog 75 #[.agg #[.float .f32 a, .float .f32 b]] w fun e w' => e = .returned (.bool (spOk a b)) ∧ w' = w.alloc (.cells #[.float .f32 a, .float .f32 b] 26) := by
  go_enter Try.func75, Try.ntmps75
  go_wp2
  go_ret
  exact ⟨rfl, rfl⟩
def boxS (a b : Nat) : Obj := .cells #[.float .f32 a, .float .f32 b] 26
set_option maxHeartbeats 1000000 in
theorem spanned_ex (a b : Nat) (w : World) :
    Calls Try.prog 59 #[.float .f32 a, .float .f32 b] w fun e w' => e = .returned (spanR (if spOk a b then ((a, b), true) else ((0, 0), false))) ∧ ∃ o1 o2 o3, w' = ((w.alloc o1).alloc o2).alloc o3 := by
  by_cases h : spOk a b = true
  · rw [if_pos h]
    go_enter Try.func59, Try.ntmps59
    go_wp2_with (go_at_call 29; (with_reducible refine (spanOk_ex _ _ _).mono ?_); rintro e w9 ⟨rfl, hw9⟩; have hw9x := hw9.symm; clear hw9; subst hw9x)
    refine bodyPost_ret (v := .tuple #[.agg #[.float .f32 a, .float .f32 b], .bool true]) (by simp [results, Try.results59, go_sem]) rfl ⟨rfl, _, _, _, rfl⟩
  · rw [if_neg h]
    have h' : spOk a b = false := Bool.eq_false_iff.2 h
    clear h
    go_enter Try.func59, Try.ntmps59
    go_wp2_with (go_at_call 29; (with_reducible refine (spanOk_ex _ _ _).mono ?_); rintro e w9 ⟨rfl, hw9⟩; have hw9x := hw9.symm; clear hw9; subst hw9x)
    refine bodyPost_ret (v := .tuple #[.agg #[.float .f32 0, .float .f32 0], .bool false]) (by simp [results, Try.results59, go_sem]) rfl ⟨rfl, _, _, _, rfl⟩
set_option maxHeartbeats 4000000 in
theorem meet_any (a0 a1 b0 b1 : Nat) (w : World) :
    Calls Try.prog 26 #[.agg #[.float .f32 a0, .float .f32 a1], .agg #[.float .f32 b0, .float .f32 b1]] w fun e w' => e = .returned (spanR (meetF a0 a1 b0 b1)) ∧ Below w.heap.size w w' := by
  cases ha : spOk a0 a1
  · have hm : meetF a0 a1 b0 b1 = ((0, 0), false) := by simp [meetF, ha]
    rw [hm]; clear hm
    go_enter Try.func26, Try.ntmps26
    go_wp2_with (go_at_call 29; (with_reducible refine (spanOk_ex _ _ _).mono ?_); rintro e w9 ⟨rfl, hw9⟩; have hw9x := hw9.symm; clear hw9; subst hw9x)
    refine bodyPost_ret (v := .tuple #[.agg #[.float .f32 0, .float .f32 0], .bool false]) (by simp [results, Try.results26, go_sem]) rfl ⟨rfl, ?_⟩
    repeat (first | exact Below.refl _ _ | assumption | refine bl_drewN ?_ _ | refine bl_drew ?_ | refine bl_alloc ?_ _ | refine bl_set ?_ (by first | (simp; done) | (simp; omega) | omega | (simp [World.setCell]; done) | (simp [World.setCell]; omega)) _ | refine bl_call ?_ (by assumption))
  · cases hb : spOk b0 b1
    · have hm : meetF a0 a1 b0 b1 = ((0, 0), false) := by simp [meetF, hb]
      rw [hm]; clear hm
      go_enter Try.func26, Try.ntmps26
      go_wp2_with (first | (go_at_call 29; (with_reducible refine (spanOk_ex b0 b1 _).mono ?_); rintro e w9 ⟨rfl, hw9⟩; have hw9x := hw9.symm; clear hw9; subst hw9x) | (go_at_call 29; (with_reducible refine (spanOk_ex a0 a1 _).mono ?_); rintro e w9 ⟨rfl, hw9⟩; have hw9x := hw9.symm; clear hw9; subst hw9x))
      refine bodyPost_ret (v := .tuple #[.agg #[.float .f32 0, .float .f32 0], .bool false]) (by simp [results, Try.results26, go_sem]) rfl ⟨rfl, ?_⟩
      repeat (first | exact Below.refl _ _ | assumption | refine bl_drewN ?_ _ | refine bl_drew ?_ | refine bl_alloc ?_ _ | refine bl_set ?_ (by first | (simp; done) | (simp; omega) | omega | (simp [World.setCell]; done) | (simp [World.setCell]; omega)) _ | refine bl_call ?_ (by assumption))
    · cases hg : gt32 b0 a0 <;> cases hl : lt32 b1 a1
      · cases hs : spOk a0 a1
        · rw [ha] at hs; cases hs
        · have hm : meetF a0 a1 b0 b1 = ((a0, a1), true) := by simp [meetF, ha, hb, hg, hl, hs]
          rw [hm]; clear hm
          have hs' : (if spOk a0 a1 then ((a0, a1), true) else ((0, 0), false)) = ((a0, a1), true) := by rw [hs]; rfl
          have HS := Lib.hid hs'
          clear hs hs'
          unfold gt32 at hg
          unfold lt32 at hl
          go_enter Try.func26, Try.ntmps26
          go_wp2_with (first | (go_at_call 59; (with_reducible refine (spanned_ex a0 a1 _).mono ?_); rw [HS.out]; rintro e w3 ⟨rfl, o1, o2, o3, rfl⟩; simp only [spanR]) | (go_at_call 29; (with_reducible refine (spanOk_ex b0 b1 _).mono ?_); rintro e w9 ⟨rfl, hw9⟩; have hw9x := hw9.symm; clear hw9; subst hw9x) | (go_at_call 29; (with_reducible refine (spanOk_ex a0 a1 _).mono ?_); rintro e w9 ⟨rfl, hw9⟩; have hw9x := hw9.symm; clear hw9; subst hw9x))
          refine bodyPost_ret (v := .tuple #[.agg #[.float .f32 a0, .float .f32 a1], .bool true]) (by simp [results, Try.results26, go_sem]) rfl ⟨rfl, ?_⟩
          repeat (first | exact Below.refl _ _ | assumption | refine bl_drewN ?_ _ | refine bl_drew ?_ | refine bl_alloc ?_ _ | refine bl_set ?_ (by first | (simp; done) | (simp; omega) | omega | (simp [World.setCell]; done) | (simp [World.setCell]; omega)) _ | refine bl_call ?_ (by assumption))
      · cases hs : spOk a0 b1
        · have hm : meetF a0 a1 b0 b1 = ((0, 0), false) := by simp [meetF, ha, hb, hg, hl, hs]
          rw [hm]; clear hm
          have hs' : (if spOk a0 b1 then ((a0, b1), true) else ((0, 0), false)) = ((0, 0), false) := by rw [hs]; rfl
          have HS := Lib.hid hs'
          clear hs hs'
          unfold gt32 at hg
          unfold lt32 at hl
          go_enter Try.func26, Try.ntmps26
          go_wp2_with (first | (go_at_call 59; (with_reducible refine (spanned_ex a0 b1 _).mono ?_); rw [HS.out]; rintro e w3 ⟨rfl, o1, o2, o3, rfl⟩; simp only [spanR]) | (go_at_call 29; (with_reducible refine (spanOk_ex b0 b1 _).mono ?_); rintro e w9 ⟨rfl, hw9⟩; have hw9x := hw9.symm; clear hw9; subst hw9x) | (go_at_call 29; (with_reducible refine (spanOk_ex a0 a1 _).mono ?_); rintro e w9 ⟨rfl, hw9⟩; have hw9x := hw9.symm; clear hw9; subst hw9x))
          refine bodyPost_ret (v := .tuple #[.agg #[.float .f32 0, .float .f32 0], .bool false]) (by simp [results, Try.results26, go_sem]) rfl ⟨rfl, ?_⟩
          repeat (first | exact Below.refl _ _ | assumption | refine bl_drewN ?_ _ | refine bl_drew ?_ | refine bl_alloc ?_ _ | refine bl_set ?_ (by first | (simp; done) | (simp; omega) | omega | (simp [World.setCell]; done) | (simp [World.setCell]; omega)) _ | refine bl_call ?_ (by assumption))
        · have hm : meetF a0 a1 b0 b1 = ((a0, b1), true) := by simp [meetF, ha, hb, hg, hl, hs]
          rw [hm]; clear hm
          have hs' : (if spOk a0 b1 then ((a0, b1), true) else ((0, 0), false)) = ((a0, b1), true) := by rw [hs]; rfl
          have HS := Lib.hid hs'
          clear hs hs'
          unfold gt32 at hg
          unfold lt32 at hl
          go_enter Try.func26, Try.ntmps26
          go_wp2_with (first | (go_at_call 59; (with_reducible refine (spanned_ex a0 b1 _).mono ?_); rw [HS.out]; rintro e w3 ⟨rfl, o1, o2, o3, rfl⟩; simp only [spanR]) | (go_at_call 29; (with_reducible refine (spanOk_ex b0 b1 _).mono ?_); rintro e w9 ⟨rfl, hw9⟩; have hw9x := hw9.symm; clear hw9; subst hw9x) | (go_at_call 29; (with_reducible refine (spanOk_ex a0 a1 _).mono ?_); rintro e w9 ⟨rfl, hw9⟩; have hw9x := hw9.symm; clear hw9; subst hw9x))
          refine bodyPost_ret (v := .tuple #[.agg #[.float .f32 a0, .float .f32 b1], .bool true]) (by simp [results, Try.results26, go_sem]) rfl ⟨rfl, ?_⟩
          repeat (first | exact Below.refl _ _ | assumption | refine bl_drewN ?_ _ | refine bl_drew ?_ | refine bl_alloc ?_ _ | refine bl_set ?_ (by first | (simp; done) | (simp; omega) | omega | (simp [World.setCell]; done) | (simp [World.setCell]; omega)) _ | refine bl_call ?_ (by assumption))
      · cases hs : spOk b0 a1
        · have hm : meetF a0 a1 b0 b1 = ((0, 0), false) := by simp [meetF, ha, hb, hg, hl, hs]
          rw [hm]; clear hm
          have hs' : (if spOk b0 a1 then ((b0, a1), true) else ((0, 0), false)) = ((0, 0), false) := by rw [hs]; rfl
          have HS := Lib.hid hs'
          clear hs hs'
          unfold gt32 at hg
          unfold lt32 at hl
          go_enter Try.func26, Try.ntmps26
          go_wp2_with (first | (go_at_call 59; (with_reducible refine (spanned_ex b0 a1 _).mono ?_); rw [HS.out]; rintro e w3 ⟨rfl, o1, o2, o3, rfl⟩; simp only [spanR]) | (go_at_call 29; (with_reducible refine (spanOk_ex b0 b1 _).mono ?_); rintro e w9 ⟨rfl, hw9⟩; have hw9x := hw9.symm; clear hw9; subst hw9x) | (go_at_call 29; (with_reducible refine (spanOk_ex a0 a1 _).mono ?_); rintro e w9 ⟨rfl, hw9⟩; have hw9x := hw9.symm; clear hw9; subst hw9x))
          refine bodyPost_ret (v := .tuple #[.agg #[.float .f32 0, .float .f32 0], .bool false]) (by simp [results, Try.results26, go_sem]) rfl ⟨rfl, ?_⟩
          repeat (first | exact Below.refl _ _ | assumption | refine bl_drewN ?_ _ | refine bl_drew ?_ | refine bl_alloc ?_ _ | refine bl_set ?_ (by first | (simp; done) | (simp; omega) | omega | (simp [World.setCell]; done) | (simp [World.setCell]; omega)) _ | refine bl_call ?_ (by assumption))
        · have hm : meetF a0 a1 b0 b1 = ((b0, a1), true) := by simp [meetF, ha, hb, hg, hl, hs]
          rw [hm]; clear hm
          have hs' : (if spOk b0 a1 then ((b0, a1), true) else ((0, 0), false)) = ((b0, a1), true) := by rw [hs]; rfl
          have HS := Lib.hid hs'
          clear hs hs'
          unfold gt32 at hg
          unfold lt32 at hl
          go_enter Try.func26, Try.ntmps26
          go_wp2_with (first | (go_at_call 59; (with_reducible refine (spanned_ex b0 a1 _).mono ?_); rw [HS.out]; rintro e w3 ⟨rfl, o1, o2, o3, rfl⟩; simp only [spanR]) | (go_at_call 29; (with_reducible refine (spanOk_ex b0 b1 _).mono ?_); rintro e w9 ⟨rfl, hw9⟩; have hw9x := hw9.symm; clear hw9; subst hw9x) | (go_at_call 29; (with_reducible refine (spanOk_ex a0 a1 _).mono ?_); rintro e w9 ⟨rfl, hw9⟩; have hw9x := hw9.symm; clear hw9; subst hw9x))
          refine bodyPost_ret (v := .tuple #[.agg #[.float .f32 b0, .float .f32 a1], .bool true]) (by simp [results, Try.results26, go_sem]) rfl ⟨rfl, ?_⟩
          repeat (first | exact Below.refl _ _ | assumption | refine bl_drewN ?_ _ | refine bl_drew ?_ | refine bl_alloc ?_ _ | refine bl_set ?_ (by first | (simp; done) | (simp; omega) | omega | (simp [World.setCell]; done) | (simp [World.setCell]; omega)) _ | refine bl_call ?_ (by assumption))
      · cases hs : spOk b0 b1
        · rw [hb] at hs; cases hs
        · have hm : meetF a0 a1 b0 b1 = ((b0, b1), true) := by simp [meetF, ha, hb, hg, hl, hs]
          rw [hm]; clear hm
          have hs' : (if spOk b0 b1 then ((b0, b1), true) else ((0, 0), false)) = ((b0, b1), true) := by rw [hs]; rfl
          have HS := Lib.hid hs'
          clear hs hs'
          unfold gt32 at hg
          unfold lt32 at hl
          go_enter Try.func26, Try.ntmps26
          go_wp2_with (first | (go_at_call 59; (with_reducible refine (spanned_ex b0 b1 _).mono ?_); rw [HS.out]; rintro e w3 ⟨rfl, o1, o2, o3, rfl⟩; simp only [spanR]) | (go_at_call 29; (with_reducible refine (spanOk_ex b0 b1 _).mono ?_); rintro e w9 ⟨rfl, hw9⟩; have hw9x := hw9.symm; clear hw9; subst hw9x) | (go_at_call 29; (with_reducible refine (spanOk_ex a0 a1 _).mono ?_); rintro e w9 ⟨rfl, hw9⟩; have hw9x := hw9.symm; clear hw9; subst hw9x))
          refine bodyPost_ret (v := .tuple #[.agg #[.float .f32 b0, .float .f32 b1], .bool true]) (by simp [results, Try.results26, go_sem]) rfl ⟨rfl, ?_⟩
          repeat (first | exact Below.refl _ _ | assumption | refine bl_drewN ?_ _ | refine bl_drew ?_ | refine bl_alloc ?_ _ | refine bl_set ?_ (by first | (simp; done) | (simp; omega) | omega | (simp [World.setCell]; done) | (simp [World.setCell]; omega)) _ | refine bl_call ?_ (by assumption))
set_option maxHeartbeats 4000000 in
theorem meetS_any (a0 a1 b0 b1 : Nat) (w : World) :
    Calls Try.prog 48 #[.agg #[.float .f32 a0, .float .f32 a1], .agg #[.float .f32 b0, .float .f32 b1]] w fun e w' => e = .returned (spanR (meetF a0 a1 b0 b1)) ∧ Below w.heap.size w w' := by
  cases ha : spOk a0 a1
  · have hm : meetF a0 a1 b0 b1 = ((0, 0), false) := by simp [meetF, ha]
    rw [hm]; clear hm
    go_enter Try.func48, Try.ntmps48
    go_wp2_with (go_at_call 75; (with_reducible refine (spanOkS_ex _ _ _).mono ?_); rintro e w9 ⟨rfl, hw9⟩; have hw9x := hw9.symm; clear hw9; subst hw9x)
    refine bodyPost_ret (v := .tuple #[.agg #[.float .f32 0, .float .f32 0], .bool false]) (by simp [results, Try.results48, go_sem]) rfl ⟨rfl, ?_⟩
    repeat (first | exact Below.refl _ _ | assumption | refine bl_drewN ?_ _ | refine bl_drew ?_ | refine bl_alloc ?_ _ | refine bl_set ?_ (by first | (simp; done) | (simp; omega) | omega | (simp [World.setCell]; done) | (simp [World.setCell]; omega)) _ | refine bl_call ?_ (by assumption))
  · cases hb : spOk b0 b1
    · have hm : meetF a0 a1 b0 b1 = ((0, 0), false) := by simp [meetF, hb]
      rw [hm]; clear hm
      go_enter Try.func48, Try.ntmps48
      go_wp2_with (first | (go_at_call 75; (with_reducible refine (spanOkS_ex b0 b1 _).mono ?_); rintro e w9 ⟨rfl, hw9⟩; have hw9x := hw9.symm; clear hw9; subst hw9x) | (go_at_call 75; (with_reducible refine (spanOkS_ex a0 a1 _).mono ?_); rintro e w9 ⟨rfl, hw9⟩; have hw9x := hw9.symm; clear hw9; subst hw9x))
      refine bodyPost_ret (v := .tuple #[.agg #[.float .f32 0, .float .f32 0], .bool false]) (by simp [results, Try.results48, go_sem]) rfl ⟨rfl, ?_⟩
      repeat (first | exact Below.refl _ _ | assumption | refine bl_drewN ?_ _ | refine bl_drew ?_ | refine bl_alloc ?_ _ | refine bl_set ?_ (by first | (simp; done) | (simp; omega) | omega | (simp [World.setCell]; done) | (simp [World.setCell]; omega)) _ | refine bl_call ?_ (by assumption))
    · cases hg : gt32 b0 a0 <;> cases hl : lt32 b1 a1
      · cases hs : spOk a0 a1
        · rw [ha] at hs; cases hs
        · have hm : meetF a0 a1 b0 b1 = ((a0, a1), true) := by simp [meetF, ha, hb, hg, hl, hs]
          rw [hm]; clear hm
          unfold gt32 at hg
          unfold lt32 at hl
          go_enter Try.func48, Try.ntmps48
          go_wp2_with (first | (go_at_call 75; (with_reducible refine (spanOkS_ex a0 a1 _).mono ?_); rintro e w9 ⟨rfl, hw9⟩; have hw9x := hw9.symm; clear hw9; subst hw9x) | (go_at_call 75; (with_reducible refine (spanOkS_ex b0 b1 _).mono ?_); rintro e w9 ⟨rfl, hw9⟩; have hw9x := hw9.symm; clear hw9; subst hw9x) | (go_at_call 75; (with_reducible refine (spanOkS_ex a0 a1 _).mono ?_); rintro e w9 ⟨rfl, hw9⟩; have hw9x := hw9.symm; clear hw9; subst hw9x))
          refine bodyPost_ret (v := .tuple #[.agg #[.float .f32 a0, .float .f32 a1], .bool true]) (by simp [results, Try.results48, go_sem]) rfl ⟨rfl, ?_⟩
          repeat (first | exact Below.refl _ _ | assumption | refine bl_drewN ?_ _ | refine bl_drew ?_ | refine bl_alloc ?_ _ | refine bl_set ?_ (by first | (simp; done) | (simp; omega) | omega | (simp [World.setCell]; done) | (simp [World.setCell]; omega)) _ | refine bl_call ?_ (by assumption))
      · cases hs : spOk a0 b1
        · have hm : meetF a0 a1 b0 b1 = ((0, 0), false) := by simp [meetF, ha, hb, hg, hl, hs]
          rw [hm]; clear hm
          unfold gt32 at hg
          unfold lt32 at hl
          go_enter Try.func48, Try.ntmps48
          go_wp2_with (first | (go_at_call 75; (with_reducible refine (spanOkS_ex a0 b1 _).mono ?_); rintro e w9 ⟨rfl, hw9⟩; have hw9x := hw9.symm; clear hw9; subst hw9x) | (go_at_call 75; (with_reducible refine (spanOkS_ex b0 b1 _).mono ?_); rintro e w9 ⟨rfl, hw9⟩; have hw9x := hw9.symm; clear hw9; subst hw9x) | (go_at_call 75; (with_reducible refine (spanOkS_ex a0 a1 _).mono ?_); rintro e w9 ⟨rfl, hw9⟩; have hw9x := hw9.symm; clear hw9; subst hw9x))
          refine bodyPost_ret (v := .tuple #[.agg #[.float .f32 0, .float .f32 0], .bool false]) (by simp [results, Try.results48, go_sem]) rfl ⟨rfl, ?_⟩
          repeat (first | exact Below.refl _ _ | assumption | refine bl_drewN ?_ _ | refine bl_drew ?_ | refine bl_alloc ?_ _ | refine bl_set ?_ (by first | (simp; done) | (simp; omega) | omega | (simp [World.setCell]; done) | (simp [World.setCell]; omega)) _ | refine bl_call ?_ (by assumption))
        · have hm : meetF a0 a1 b0 b1 = ((a0, b1), true) := by simp [meetF, ha, hb, hg, hl, hs]
          rw [hm]; clear hm
          unfold gt32 at hg
          unfold lt32 at hl
          go_enter Try.func48, Try.ntmps48
          go_wp2_with (first | (go_at_call 75; (with_reducible refine (spanOkS_ex a0 b1 _).mono ?_); rintro e w9 ⟨rfl, hw9⟩; have hw9x := hw9.symm; clear hw9; subst hw9x) | (go_at_call 75; (with_reducible refine (spanOkS_ex b0 b1 _).mono ?_); rintro e w9 ⟨rfl, hw9⟩; have hw9x := hw9.symm; clear hw9; subst hw9x) | (go_at_call 75; (with_reducible refine (spanOkS_ex a0 a1 _).mono ?_); rintro e w9 ⟨rfl, hw9⟩; have hw9x := hw9.symm; clear hw9; subst hw9x))
          refine bodyPost_ret (v := .tuple #[.agg #[.float .f32 a0, .float .f32 b1], .bool true]) (by simp [results, Try.results48, go_sem]) rfl ⟨rfl, ?_⟩
          repeat (first | exact Below.refl _ _ | assumption | refine bl_drewN ?_ _ | refine bl_drew ?_ | refine bl_alloc ?_ _ | refine bl_set ?_ (by first | (simp; done) | (simp; omega) | omega | (simp [World.setCell]; done) | (simp [World.setCell]; omega)) _ | refine bl_call ?_ (by assumption))
      · cases hs : spOk b0 a1
        · have hm : meetF a0 a1 b0 b1 = ((0, 0), false) := by simp [meetF, ha, hb, hg, hl, hs]
          rw [hm]; clear hm
          unfold gt32 at hg
          unfold lt32 at hl
          go_enter Try.func48, Try.ntmps48
          go_wp2_with (first | (go_at_call 75; (with_reducible refine (spanOkS_ex b0 a1 _).mono ?_); rintro e w9 ⟨rfl, hw9⟩; have hw9x := hw9.symm; clear hw9; subst hw9x) | (go_at_call 75; (with_reducible refine (spanOkS_ex b0 b1 _).mono ?_); rintro e w9 ⟨rfl, hw9⟩; have hw9x := hw9.symm; clear hw9; subst hw9x) | (go_at_call 75; (with_reducible refine (spanOkS_ex a0 a1 _).mono ?_); rintro e w9 ⟨rfl, hw9⟩; have hw9x := hw9.symm; clear hw9; subst hw9x))
          refine bodyPost_ret (v := .tuple #[.agg #[.float .f32 0, .float .f32 0], .bool false]) (by simp [results, Try.results48, go_sem]) rfl ⟨rfl, ?_⟩
          repeat (first | exact Below.refl _ _ | assumption | refine bl_drewN ?_ _ | refine bl_drew ?_ | refine bl_alloc ?_ _ | refine bl_set ?_ (by first | (simp; done) | (simp; omega) | omega | (simp [World.setCell]; done) | (simp [World.setCell]; omega)) _ | refine bl_call ?_ (by assumption))
        · have hm : meetF a0 a1 b0 b1 = ((b0, a1), true) := by simp [meetF, ha, hb, hg, hl, hs]
          rw [hm]; clear hm
          unfold gt32 at hg
          unfold lt32 at hl
          go_enter Try.func48, Try.ntmps48
          go_wp2_with (first | (go_at_call 75; (with_reducible refine (spanOkS_ex b0 a1 _).mono ?_); rintro e w9 ⟨rfl, hw9⟩; have hw9x := hw9.symm; clear hw9; subst hw9x) | (go_at_call 75; (with_reducible refine (spanOkS_ex b0 b1 _).mono ?_); rintro e w9 ⟨rfl, hw9⟩; have hw9x := hw9.symm; clear hw9; subst hw9x) | (go_at_call 75; (with_reducible refine (spanOkS_ex a0 a1 _).mono ?_); rintro e w9 ⟨rfl, hw9⟩; have hw9x := hw9.symm; clear hw9; subst hw9x))
          refine bodyPost_ret (v := .tuple #[.agg #[.float .f32 b0, .float .f32 a1], .bool true]) (by simp [results, Try.results48, go_sem]) rfl ⟨rfl, ?_⟩
          repeat (first | exact Below.refl _ _ | assumption | refine bl_drewN ?_ _ | refine bl_drew ?_ | refine bl_alloc ?_ _ | refine bl_set ?_ (by first | (simp; done) | (simp; omega) | omega | (simp [World.setCell]; done) | (simp [World.setCell]; omega)) _ | refine bl_call ?_ (by assumption))
      · cases hs : spOk b0 b1
        · rw [hb] at hs; cases hs
        · have hm : meetF a0 a1 b0 b1 = ((b0, b1), true) := by simp [meetF, ha, hb, hg, hl, hs]
          rw [hm]; clear hm
          unfold gt32 at hg
          unfold lt32 at hl
          go_enter Try.func48, Try.ntmps48
          go_wp2_with (first | (go_at_call 75; (with_reducible refine (spanOkS_ex b0 b1 _).mono ?_); rintro e w9 ⟨rfl, hw9⟩; have hw9x := hw9.symm; clear hw9; subst hw9x) | (go_at_call 75; (with_reducible refine (spanOkS_ex b0 b1 _).mono ?_); rintro e w9 ⟨rfl, hw9⟩; have hw9x := hw9.symm; clear hw9; subst hw9x) | (go_at_call 75; (with_reducible refine (spanOkS_ex a0 a1 _).mono ?_); rintro e w9 ⟨rfl, hw9⟩; have hw9x := hw9.symm; clear hw9; subst hw9x))
          refine bodyPost_ret (v := .tuple #[.agg #[.float .f32 b0, .float .f32 b1], .bool true]) (by simp [results, Try.results48, go_sem]) rfl ⟨rfl, ?_⟩
          repeat (first | exact Below.refl _ _ | assumption | refine bl_drewN ?_ _ | refine bl_drew ?_ | refine bl_alloc ?_ _ | refine bl_set ?_ (by first | (simp; done) | (simp; omega) | omega | (simp [World.setCell]; done) | (simp [World.setCell]; omega)) _ | refine bl_call ?_ (by assumption))
end Go.Proofs.Ytldcciipicnooaa
