/- The value of a unit. -/
import Derived.Test.YtldcciipicnooaaDoorMk
namespace Go.Proofs.YtldcciipicnooaaDoor
open Go.RowKit

def unitB (s : ByteArray) (m e : Int) : Value := .agg #[.string s, .int .i64 m, .int .i64 e]
/-- What UnitValue answers. -/
def unitF (s : List UInt8) (m e : Int) : Nat × Bool := if (makeF s m e).2 && !(FloatKind.f32.format.order (makeF s m e).1 0 == some .eq) then ((makeF s m e).1, true) else (0, false)
def UnEnd (v : Nat × Bool) (w : World) (en : Ending) (w' : World) : Prop := en = .returned (.tuple #[.float .f32 v.1, .bool v.2]) ∧ ∃ o n, w' = (w.alloc o).drewN n

set_option maxRecDepth 100000 in
theorem unitI_any (s : ByteArray) (m e : Int) (w : World) :
    Calls Tryd.prog 20 #[.agg #[.string s, .int .i64 m, .int .i64 e]] w (UnEnd (unitF s.toList m e) w) := by
  obtain ⟨v, hv⟩ : ∃ v, makeF s.toList m e = v := ⟨_, rfl⟩
  have HV := Lib.hid hv
  clear hv
  obtain ⟨x, ok⟩ := v
  cases ok
  · have HF : Hid (unitF s.toList m e = (0, false)) := Lib.hid (by unfold unitF; rw [HV.out]; rfl)
    go_enter Tryd.func20, Tryd.ntmps20
    go_wp2_with (go_at_call 48; (with_reducible refine (makeI_any _ _ _ _).mono ?_); rintro en w' ⟨he, n, hw⟩; rw [HV.out] at he; subst he; subst hw)
    go_ret2
    exact ⟨by rw [HF.out]; rfl, _, _, rfl⟩
  · cases hz : FloatKind.f32.format.order x 0 == some .eq
    · have HF : Hid (unitF s.toList m e = (x, true)) := Lib.hid (by unfold unitF; rw [HV.out]; simp [hz])
      go_enter Tryd.func20, Tryd.ntmps20
      go_wp2_with (go_at_call 48; (with_reducible refine (makeI_any _ _ _ _).mono ?_); rintro en w' ⟨he, n, hw⟩; rw [HV.out] at he; subst he; subst hw)
      go_ret2
      exact ⟨by rw [HF.out]; rfl, _, _, rfl⟩
    · have HF : Hid (unitF s.toList m e = (0, false)) := Lib.hid (by unfold unitF; rw [HV.out]; simp [hz])
      go_enter Tryd.func20, Tryd.ntmps20
      go_wp2_with (go_at_call 48; (with_reducible refine (makeI_any _ _ _ _).mono ?_); rintro en w' ⟨he, n, hw⟩; rw [HV.out] at he; subst he; subst hw)
      go_ret2
      exact ⟨by rw [HF.out]; rfl, _, _, rfl⟩
set_option maxRecDepth 100000 in
theorem unitS_any (s : ByteArray) (m e : Int) (w : World) :
    Calls Tryd.prog 21 #[.agg #[.string s, .int .i64 m, .int .i64 e]] w (UnEnd (unitF s.toList m e) w) := by
  obtain ⟨v, hv⟩ : ∃ v, makeF s.toList m e = v := ⟨_, rfl⟩
  have HV := Lib.hid hv
  clear hv
  obtain ⟨x, ok⟩ := v
  cases ok
  · have HF : Hid (unitF s.toList m e = (0, false)) := Lib.hid (by unfold unitF; rw [HV.out]; rfl)
    go_enter Tryd.func21, Tryd.ntmps21
    go_wp2_with (go_at_call 49; (with_reducible refine (makeS_any _ _ _ _).mono ?_); rintro en w' ⟨he, n, hw⟩; rw [HV.out] at he; subst he; subst hw)
    go_ret2
    exact ⟨by rw [HF.out]; rfl, _, _, rfl⟩
  · cases hz : FloatKind.f32.format.order x 0 == some .eq
    · have HF : Hid (unitF s.toList m e = (x, true)) := Lib.hid (by unfold unitF; rw [HV.out]; simp [hz])
      go_enter Tryd.func21, Tryd.ntmps21
      go_wp2_with (go_at_call 49; (with_reducible refine (makeS_any _ _ _ _).mono ?_); rintro en w' ⟨he, n, hw⟩; rw [HV.out] at he; subst he; subst hw)
      go_ret2
      exact ⟨by rw [HF.out]; rfl, _, _, rfl⟩
    · have HF : Hid (unitF s.toList m e = (0, false)) := Lib.hid (by unfold unitF; rw [HV.out]; simp [hz])
      go_enter Tryd.func21, Tryd.ntmps21
      go_wp2_with (go_at_call 49; (with_reducible refine (makeS_any _ _ _ _).mono ?_); rintro en w' ⟨he, n, hw⟩; rw [HV.out] at he; subst he; subst hw)
      go_ret2
      exact ⟨by rw [HF.out]; rfl, _, _, rfl⟩

end Go.Proofs.YtldcciipicnooaaDoor
