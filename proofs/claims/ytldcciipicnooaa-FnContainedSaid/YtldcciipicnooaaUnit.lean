/- The value of a unit, and a law's own copy of a unit. -/
import Derived.Test.YtldcciipicnooaaMk
namespace Go.Proofs.Ytldcciipicnooaa
open Go.RowKit

def unitB (s : ByteArray) (m e : Int) : Value := .agg #[.string s, .int .i64 m, .int .i64 e]
/-- What UnitValue answers. -/
def unitF (s : List UInt8) (m e : Int) : Nat × Bool := if (makeF s m e).2 && !(FloatKind.f32.format.order (makeF s m e).1 0 == some .eq) then ((makeF s m e).1, true) else (0, false)
def UnEnd (v : Nat × Bool) (w : World) (en : Ending) (w' : World) : Prop := en = .returned (.tuple #[.float .f32 v.1, .bool v.2]) ∧ ∃ o n, w' = (w.alloc o).drewN n

set_option maxRecDepth 100000 in
theorem unitI_any (s : ByteArray) (m e : Int) (w : World) :
    Calls Try.prog 37 #[.agg #[.string s, .int .i64 m, .int .i64 e]] w (UnEnd (unitF s.toList m e) w) := by
  obtain ⟨v, hv⟩ : ∃ v, makeF s.toList m e = v := ⟨_, rfl⟩
  have HV := Lib.hid hv
  clear hv
  obtain ⟨x, ok⟩ := v
  cases ok
  · have HF : Hid (unitF s.toList m e = (0, false)) := Lib.hid (by unfold unitF; rw [HV.out]; rfl)
    go_enter Try.func37, Try.ntmps37
    go_wp2_with (go_at_call 62; (with_reducible refine (makeI_any _ _ _ _).mono ?_); rintro en w' ⟨he, n, hw⟩; rw [HV.out] at he; subst he; subst hw)
    go_ret2
    exact ⟨by rw [HF.out]; rfl, _, _, rfl⟩
  · cases hz : FloatKind.f32.format.order x 0 == some .eq
    · have HF : Hid (unitF s.toList m e = (x, true)) := Lib.hid (by unfold unitF; rw [HV.out]; simp [hz])
      go_enter Try.func37, Try.ntmps37
      go_wp2_with (go_at_call 62; (with_reducible refine (makeI_any _ _ _ _).mono ?_); rintro en w' ⟨he, n, hw⟩; rw [HV.out] at he; subst he; subst hw)
      go_ret2
      exact ⟨by rw [HF.out]; rfl, _, _, rfl⟩
    · have HF : Hid (unitF s.toList m e = (0, false)) := Lib.hid (by unfold unitF; rw [HV.out]; simp [hz])
      go_enter Try.func37, Try.ntmps37
      go_wp2_with (go_at_call 62; (with_reducible refine (makeI_any _ _ _ _).mono ?_); rintro en w' ⟨he, n, hw⟩; rw [HV.out] at he; subst he; subst hw)
      go_ret2
      exact ⟨by rw [HF.out]; rfl, _, _, rfl⟩
set_option maxRecDepth 100000 in
theorem unitS_any (s : ByteArray) (m e : Int) (w : World) :
    Calls Try.prog 35 #[.agg #[.string s, .int .i64 m, .int .i64 e]] w (UnEnd (unitF s.toList m e) w) := by
  obtain ⟨v, hv⟩ : ∃ v, makeF s.toList m e = v := ⟨_, rfl⟩
  have HV := Lib.hid hv
  clear hv
  obtain ⟨x, ok⟩ := v
  cases ok
  · have HF : Hid (unitF s.toList m e = (0, false)) := Lib.hid (by unfold unitF; rw [HV.out]; rfl)
    go_enter Try.func35, Try.ntmps35
    go_wp2_with (go_at_call 61; (with_reducible refine (makeS_any _ _ _ _).mono ?_); rintro en w' ⟨he, n, hw⟩; rw [HV.out] at he; subst he; subst hw)
    go_ret2
    exact ⟨by rw [HF.out]; rfl, _, _, rfl⟩
  · cases hz : FloatKind.f32.format.order x 0 == some .eq
    · have HF : Hid (unitF s.toList m e = (x, true)) := Lib.hid (by unfold unitF; rw [HV.out]; simp [hz])
      go_enter Try.func35, Try.ntmps35
      go_wp2_with (go_at_call 61; (with_reducible refine (makeS_any _ _ _ _).mono ?_); rintro en w' ⟨he, n, hw⟩; rw [HV.out] at he; subst he; subst hw)
      go_ret2
      exact ⟨by rw [HF.out]; rfl, _, _, rfl⟩
    · have HF : Hid (unitF s.toList m e = (0, false)) := Lib.hid (by unfold unitF; rw [HV.out]; simp [hz])
      go_enter Try.func35, Try.ntmps35
      go_wp2_with (go_at_call 61; (with_reducible refine (makeS_any _ _ _ _).mono ?_); rintro en w' ⟨he, n, hw⟩; rw [HV.out] at he; subst he; subst hw)
      go_ret2
      exact ⟨by rw [HF.out]; rfl, _, _, rfl⟩

theorem toUnit_any (s : ByteArray) (m e : Int) (w : World) :
    Calls Try.prog 36 #[.agg #[.string s, .int .i64 m, .int .i64 e]] w fun en w' => en = .returned (.agg #[.string s, .int .i64 m, .int .i64 e]) ∧ ∃ o1 o2 o3, w' = ((w.alloc o1).alloc o2).alloc o3 := by
  go_enter Try.func36, Try.ntmps36
  go_wp2
  refine bodyPost_ret (v := .agg #[.string s, .int .i64 m, .int .i64 e]) (by simp [results, Try.results36, go_sem]) rfl ⟨rfl, _, _, _, rfl⟩
theorem szUnit_any (s : ByteArray) (m e : Int) (w : World) (hs : s.size ≤ 9223372036854775807) :
    Calls Try.prog 34 #[.agg #[.string s, .int .i64 m, .int .i64 e], .int .i64 1048576] w fun en w' => en = .returned (.int .i64 (if s.size ≤ 1048576 then 1048576 - (s.size : Int) else -1)) ∧ ∃ o, w' = w.alloc o := by
  by_cases h : s.size ≤ 1048576
  · rw [if_pos h]
    go_enter Try.func34, Try.ntmps34
    go_wp2
    go_ret
    exact ⟨rfl, _, rfl⟩
  · rw [if_neg h]
    go_enter Try.func34, Try.ntmps34
    go_wp2
    go_ret
    exact ⟨rfl, _, rfl⟩
end Go.Proofs.Ytldcciipicnooaa
