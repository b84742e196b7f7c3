/- Hulls of spans, numbers held by spans; what meeting spans and hulls hold. -/
import Derived.Test.YtldcciipicnooaaAgr
import Derived.Test.YtldcciipicnooaaSpanE
namespace Go.Proofs.Ytldcciipicnooaa
open Go.RowKit
attribute [local go_sem] run_store_float run_store_complex

def wd (a : Nat) : Nat := FloatKind.f64.format.write (FloatKind.f32.format.read a)
def ge64 (v x : Nat) : Bool := FloatKind.f64.format.order v x == some .gt || FloatKind.f64.format.order v x == some .eq
def le64 (v x : Nat) : Bool := FloatKind.f64.format.order v x == some .lt || FloatKind.f64.format.order v x == some .eq
def holdsF (a b v : Nat) : Bool := spOk a b && ge64 v (wd a) && le64 v (wd b)

theorem order_nan {k : FloatKind} {x y : Nat} {o : Ordering} (h : k.format.order x y = some o) : ru k.format x ≤ k.format.infRung ∧ ru k.format y ≤ k.format.infRung := by
  constructor
  · rcases Nat.lt_or_ge k.format.infRung (ru k.format x) with h1 | h1
    · rw [order_nan_left k h1] at h; cases h
    · exact h1
  · rcases Nat.lt_or_ge k.format.infRung (ru k.format y) with h1 | h1
    · rw [order_nan_right k h1] at h; cases h
    · exact h1
theorem spOk_num {a b : Nat} (h : spOk a b = true) : ru FloatKind.f32.format a ≤ FloatKind.f32.format.infRung ∧ ru FloatKind.f32.format b ≤ FloatKind.f32.format.infRung := by
  unfold spOk at h
  simp only [Bool.or_eq_true, beq_iff_eq] at h
  rcases h with h | h <;> exact order_nan h
theorem widen_wd {a r : Nat} (ha : ru FloatKind.f32.format a ≤ FloatKind.f32.format.infRung) (hr : cw .f64 r = widen (cw .f32 a)) : r = wd a := by
  rw [cw_some .f32 ha] at hr
  exact cw_out hr

set_option maxRecDepth 100000 in
set_option maxHeartbeats 1000000 in
theorem holds_any (a b v : Nat) (w : World) :
    Calls Try.prog 28 #[.agg #[.float .f32 a, .float .f32 b], .float .f64 v] w fun e w' => e = .returned (.bool (holdsF a b v)) ∧ Below w.heap.size w w' := by
  cases hs : spOk a b
  · have HF : Hid (holdsF a b v = false) := Lib.hid (by unfold holdsF; rw [hs]; rfl)
    go_enter Try.func28, Try.ntmps28
    go_wp2_with (go_at_call 29; (with_reducible refine (spanOk_ex _ _ _).mono ?_); rintro e w9 ⟨rfl, hw9⟩; have hw9x := hw9.symm; clear hw9; subst hw9x)
    go_ret
    exact ⟨by rw [HF.out]; rfl, by repeat (first | exact Below.refl _ _ | assumption | refine bl_drewN ?_ _ | refine bl_drew ?_ | refine bl_alloc ?_ _ | refine bl_set ?_ (by first | (simp; done) | (simp; omega) | omega | (simp [World.setCell]; done) | (simp [World.setCell]; omega)) _ | refine bl_call ?_ (by assumption))⟩
  · obtain ⟨n1, n2⟩ := spOk_num hs
    have N1 := Lib.hid n1
    have N2 := Lib.hid n2
    clear n1 n2
    cases hg : ge64 v (wd a)
    · have HF : Hid (holdsF a b v = false) := Lib.hid (by unfold holdsF; rw [hs, hg]; rfl)
      unfold ge64 at hg
      go_enter Try.func28, Try.ntmps28
      go_wp2_with (first | (go_at_call 29; (with_reducible refine (spanOk_ex _ _ _).mono ?_); rintro e w9 ⟨rfl, hw9⟩; have hw9x := hw9.symm; clear hw9; subst hw9x) | (refine wpl_widen 11 Try.underlying24 Try.underlying39 rfl rfl rfl rfl ?_; intro r1 n1 hr1; obtain rfl := widen_wd N1.out hr1.out.1))
      go_ret
      exact ⟨by rw [HF.out]; rfl, by repeat (first | exact Below.refl _ _ | assumption | refine bl_drewN ?_ _ | refine bl_drew ?_ | refine bl_alloc ?_ _ | refine bl_set ?_ (by first | (simp; done) | (simp; omega) | omega | (simp [World.setCell]; done) | (simp [World.setCell]; omega)) _ | refine bl_call ?_ (by assumption))⟩
    · cases hl : le64 v (wd b)
      all_goals
        have HF : Hid (holdsF a b v = le64 v (wd b)) := Lib.hid (by unfold holdsF; rw [hs, hg]; rfl)
        have HL := Lib.hid hl
        unfold ge64 at hg
        unfold le64 at hl
        go_enter Try.func28, Try.ntmps28
        go_wp2_with (first | (go_at_call 29; (with_reducible refine (spanOk_ex _ _ _).mono ?_); rintro e w9 ⟨rfl, hw9⟩; have hw9x := hw9.symm; clear hw9; subst hw9x) | (refine wpl_widen 11 Try.underlying24 Try.underlying39 rfl rfl rfl rfl ?_; intro r1 n1 hr1; obtain rfl := widen_wd N1.out hr1.out.1) | (refine wpl_widen 18 Try.underlying24 Try.underlying39 rfl rfl rfl rfl ?_; intro r2 n2 hr2; obtain rfl := widen_wd N2.out hr2.out.1))
        go_ret
        exact ⟨by rw [HF.out, HL.out]; rfl, by repeat (first | exact Below.refl _ _ | assumption | refine bl_drewN ?_ _ | refine bl_drew ?_ | refine bl_alloc ?_ _ | refine bl_set ?_ (by first | (simp; done) | (simp; omega) | omega | (simp [World.setCell]; done) | (simp [World.setCell]; omega)) _ | refine bl_call ?_ (by assumption))⟩
set_option maxRecDepth 100000 in
set_option maxHeartbeats 1000000 in
theorem hull_any (a0 a1 b0 b1 : Nat) (w : World) (ha : spOk a0 a1 = true) (hb : spOk b0 b1 = true) :
    Calls Try.prog 27 #[.agg #[.float .f32 a0, .float .f32 a1], .agg #[.float .f32 b0, .float .f32 b1]] w fun e w' => e = .returned (.tuple #[.agg #[.float .f32 (if lt32 b0 a0 then b0 else a0), .float .f32 (if gt32 b1 a1 then b1 else a1)], .bool true]) ∧ Below w.heap.size w w' := by
  cases hg : lt32 b0 a0 <;> cases hl : gt32 b1 a1
  all_goals
    simp only [Bool.false_eq_true, if_false, if_true]
    unfold lt32 at hg
    unfold gt32 at hl
    go_enter Try.func27, Try.ntmps27
    go_wp2_with (first | (go_at_call 29; (with_reducible refine (spanOk_ex b0 b1 _).mono ?_); rintro e w9 ⟨rfl, hw9⟩; have hw9x := hw9.symm; clear hw9; subst hw9x) | (go_at_call 29; (with_reducible refine (spanOk_ex a0 a1 _).mono ?_); rintro e w9 ⟨rfl, hw9⟩; have hw9x := hw9.symm; clear hw9; subst hw9x))
    exact bodyPost_ret (by simp [results, Try.results27, go_sem]) rfl ⟨rfl, by repeat (first | exact Below.refl _ _ | assumption | refine bl_drewN ?_ _ | refine bl_drew ?_ | refine bl_alloc ?_ _ | refine bl_set ?_ (by first | (simp; done) | (simp; omega) | omega | (simp [World.setCell]; done) | (simp [World.setCell]; omega)) _ | refine bl_call ?_ (by assumption))⟩

/-! plain -/
theorem wd_fin {a : Nat} (h : ru FloatKind.f32.format a < FloatKind.f32.format.infRung) : ru FloatKind.f64.format (wd a) < FloatKind.f64.format.infRung ∧ val .f64 (wd a) = val .f32 a := by
  obtain ⟨q, hq, a1, a2, a3⟩ := widen_fin h
  unfold wd
  rw [← hq]
  exact ⟨a2, a3⟩
theorem wd_key {a b : Nat} (ha : ru FloatKind.f32.format a < FloatKind.f32.format.infRung) (hb : ru FloatKind.f32.format b < FloatKind.f32.format.infRung) : key .f64 (wd a) < key .f64 (wd b) ↔ key .f32 a < key .f32 b := by
  rw [← key_val_lt, ← key_val_lt, (wd_fin ha).2, (wd_fin hb).2]
theorem spOk_key {a b : Nat} (ha : ru FloatKind.f32.format a < FloatKind.f32.format.infRung) (hb : ru FloatKind.f32.format b < FloatKind.f32.format.infRung) : spOk a b = decide (key .f32 a ≤ key .f32 b) := by
  unfold spOk
  rw [ord_lt .f32 (Nat.le_of_lt ha) (Nat.le_of_lt hb), ord_eq .f32 (Nat.le_of_lt ha) (Nat.le_of_lt hb), Bool.eq_iff_iff]
  simp; omega
theorem gt32_key {a b : Nat} (ha : ru FloatKind.f32.format a < FloatKind.f32.format.infRung) (hb : ru FloatKind.f32.format b < FloatKind.f32.format.infRung) : gt32 a b = decide (key .f32 b < key .f32 a) := ord_gt .f32 (Nat.le_of_lt ha) (Nat.le_of_lt hb)
theorem lt32_key {a b : Nat} (ha : ru FloatKind.f32.format a < FloatKind.f32.format.infRung) (hb : ru FloatKind.f32.format b < FloatKind.f32.format.infRung) : lt32 a b = decide (key .f32 a < key .f32 b) := ord_lt .f32 (Nat.le_of_lt ha) (Nat.le_of_lt hb)
theorem holds_key {a b v : Nat} (ha : ru FloatKind.f32.format a < FloatKind.f32.format.infRung) (hb : ru FloatKind.f32.format b < FloatKind.f32.format.infRung) (hv : ru FloatKind.f64.format v ≤ FloatKind.f64.format.infRung) :
    holdsF a b v = (decide (key .f32 a ≤ key .f32 b) && (decide (key .f64 (wd a) ≤ key .f64 v) && decide (key .f64 v ≤ key .f64 (wd b)))) := by
  have wa := (wd_fin ha).1
  have wb := (wd_fin hb).1
  unfold holdsF ge64 le64
  rw [spOk_key ha hb, ord_gt .f64 hv (Nat.le_of_lt wa), ord_eq .f64 hv (Nat.le_of_lt wa), ord_lt .f64 hv (Nat.le_of_lt wb), ord_eq .f64 hv (Nat.le_of_lt wb), Bool.eq_iff_iff]
  simp
  constructor
  · rintro ⟨⟨h1, h2⟩, h3⟩; exact ⟨h1, by omega, by omega⟩
  · rintro ⟨h1, h2, h3⟩; exact ⟨⟨h1, by omega⟩, by omega⟩
theorem holds_nan {a b v : Nat} (hv : FloatKind.f64.format.infRung < ru FloatKind.f64.format v) : holdsF a b v = false := by
  unfold holdsF ge64
  rw [order_nan_left .f64 hv]
  simp

theorem spg_ok {a0 a1 : Nat} (ha : SpG a0 a1) : spOk a0 a1 = true := by rw [spOk_key ha.1.fin ha.2.1.fin]; exact decide_eq_true ha.2.2
section
variable {a0 a1 b0 b1 : Nat} (ha : SpG a0 a1) (hb : SpG b0 b1)
include ha hb
/-- A number lies in what two spans have in common exactly if it lies in both. -/
theorem meet_holds (v : Nat) : (holdsF a0 a1 v && holdsF b0 b1 v) = ((meetF a0 a1 b0 b1).2 && holdsF (meetF a0 a1 b0 b1).1.1 (meetF a0 a1 b0 b1).1.2 v) := by
  obtain ⟨ma0, ma1, ka⟩ := ha
  obtain ⟨mb0, mb1, kb⟩ := hb
  have fa0 := ma0.fin
  have fa1 := ma1.fin
  have fb0 := mb0.fin
  have fb1 := mb1.fin
  rcases Nat.lt_or_ge FloatKind.f64.format.infRung (ru FloatKind.f64.format v) with hv | hv
  · rw [holds_nan hv, holds_nan hv, holds_nan hv]; simp
  · have w1 := wd_key fa0 fb0
    have w2 := wd_key fb0 fa0
    have w3 := wd_key fa1 fb1
    have w4 := wd_key fb1 fa1
    rw [holds_key fa0 fa1 hv, holds_key fb0 fb1 hv]
    unfold meetF
    rw [spOk_key fa0 fa1, spOk_key fb0 fb1, gt32_key fb0 fa0, lt32_key fb1 fa1]
    have x1 := wd_key fa0 fa1
    have x2 := wd_key fb0 fa1
    have x3 := wd_key fa1 fa0
    have x4 := wd_key fa1 fb0
    have x5 := wd_key fb1 fa0
    have x6 := wd_key fb1 fb0
    have x7 := wd_key fa0 fb1
    have x8 := wd_key fb0 fb1
    by_cases h1 : key .f32 a0 < key .f32 b0 <;> by_cases h2 : key .f32 b1 < key .f32 a1
    all_goals
      simp only [h1, h2, decide_true, decide_false, Bool.false_eq_true, if_true, if_false]
      first | rw [spOk_key fb0 fb1] | rw [spOk_key fb0 fa1] | rw [spOk_key fa0 fb1] | rw [spOk_key fa0 fa1]
      split
      · rename_i hc
        simp only [Bool.and_eq_true, decide_eq_true_eq] at hc
        simp only []
        first | rw [holds_key fb0 fb1 hv] | rw [holds_key fb0 fa1 hv] | rw [holds_key fa0 fb1 hv] | rw [holds_key fa0 fa1 hv]
        rw [Bool.eq_iff_iff]
        simp only [Bool.and_eq_true, decide_eq_true_eq]
        constructor
        · intro h; refine ⟨trivial, ?_⟩; omega
        · intro h; omega
      · rename_i hc
        simp only [Bool.and_eq_true, decide_eq_true_eq] at hc
        rw [Bool.eq_iff_iff]
        simp only [Bool.and_eq_true, decide_eq_true_eq, Bool.false_eq_true, false_and, iff_false]
        omega
/-- The hull has all that lies in one of them. -/
theorem hull_holds (v : Nat) : (holdsF a0 a1 v || holdsF b0 b1 v) = true → holdsF (if lt32 b0 a0 then b0 else a0) (if gt32 b1 a1 then b1 else a1) v = true := by
  obtain ⟨ma0, ma1, ka⟩ := ha
  obtain ⟨mb0, mb1, kb⟩ := hb
  have fa0 := ma0.fin
  have fa1 := ma1.fin
  have fb0 := mb0.fin
  have fb1 := mb1.fin
  rcases Nat.lt_or_ge FloatKind.f64.format.infRung (ru FloatKind.f64.format v) with hv | hv
  · rw [holds_nan hv, holds_nan hv]; simp
  · have w1 := wd_key fa0 fb0
    have w2 := wd_key fb0 fa0
    have w3 := wd_key fa1 fb1
    have w4 := wd_key fb1 fa1
    rw [holds_key fa0 fa1 hv, holds_key fb0 fb1 hv, lt32_key fb0 fa0, gt32_key fb1 fa1]
    simp only [Bool.or_eq_true, Bool.and_eq_true, decide_eq_true_eq]
    by_cases h1 : key .f32 b0 < key .f32 a0 <;> by_cases h2 : key .f32 a1 < key .f32 b1
    all_goals
      simp only [h1, h2, if_true, if_false]
      first | rw [holds_key fb0 fb1 hv] | rw [holds_key fb0 fa1 hv] | rw [holds_key fa0 fb1 hv] | rw [holds_key fa0 fa1 hv]
      simp only [Bool.and_eq_true, decide_eq_true_eq]
      intro h
      omega
/-- All of the three have in common what two of them have. -/
theorem agree_three : agreeF [(a0, a1), (b0, b1), (a0, a1)] = meetF a0 a1 b0 b1 := by
  have ok1 := spg_ok ha
  have ok2 := spg_ok hb
  obtain ⟨ma0, ma1, ka⟩ := ha
  obtain ⟨mb0, mb1, kb⟩ := hb
  have fa0 := ma0.fin
  have fa1 := ma1.fin
  have fb0 := mb0.fin
  have fb1 := mb1.fin
  have e : agreeF [(a0, a1), (b0, b1), (a0, a1)] = foldA (a0, a1) [(a0, a1), (b0, b1), (a0, a1)] := rfl
  rw [e, foldA_cons]
  simp only [meet_self, ok1, if_true]
  rw [foldA_cons]
  simp only []
  cases hm : (meetF a0 a1 b0 b1).2
  · rw [meet_fail hm]; rfl
  · simp only [if_true]
    rw [foldA_cons]
    simp only []
    have hm' := hm
    unfold meetF at hm'
    have hmF : meetF a0 a1 b0 b1 = ((if gt32 b0 a0 then b0 else a0, if lt32 b1 a1 then b1 else a1), true) := by
      unfold meetF
      generalize (if gt32 b0 a0 then b0 else a0) = u at *
      generalize (if lt32 b1 a1 then b1 else a1) = v at *
      split at hm'
      · rename_i h; rw [if_pos h]
      · cases hm'
    have hs : spOk (if gt32 b0 a0 then b0 else a0) (if lt32 b1 a1 then b1 else a1) = true := by
      generalize (if gt32 b0 a0 then b0 else a0) = u at *
      generalize (if lt32 b1 a1 then b1 else a1) = v at *
      split at hm'
      · rename_i h
        simp only [Bool.and_eq_true] at h
        exact h.2
      · cases hm'
    rw [hmF]
    have g1 : gt32 a0 (if gt32 b0 a0 then b0 else a0) = false := by
      rw [gt32_key fb0 fa0]
      by_cases h : key .f32 a0 < key .f32 b0
      · simp only [h, decide_true, if_true]; rw [gt32_key fa0 fb0]; exact decide_eq_false (by omega)
      · simp only [h, decide_false, Bool.false_eq_true, if_false]; rw [gt32_key fa0 fa0]; exact decide_eq_false (by omega)
    have g2 : lt32 a1 (if lt32 b1 a1 then b1 else a1) = false := by
      rw [lt32_key fb1 fa1]
      by_cases h : key .f32 b1 < key .f32 a1
      · simp only [h, decide_true, if_true]; rw [lt32_key fa1 fb1]; exact decide_eq_false (by omega)
      · simp only [h, decide_false, Bool.false_eq_true, if_false]; rw [lt32_key fa1 fa1]; exact decide_eq_false (by omega)
    generalize (if gt32 b0 a0 then b0 else a0) = u at *
    generalize (if lt32 b1 a1 then b1 else a1) = v at *
    have hself : meetF u v a0 a1 = ((u, v), true) := by
      unfold meetF
      rw [g1, g2]
      simp [hs, ok1]
    simp only [hself, if_true]
    rfl
end
end Go.Proofs.Ytldcciipicnooaa
