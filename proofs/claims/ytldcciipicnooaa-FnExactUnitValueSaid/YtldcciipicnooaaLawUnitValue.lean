/- For every input laws.FnExactUnitValue returns true: the program's UnitValue and the reference's come to the same word. No condition. -/
import Derived.Test.YtldcciipicnooaaUnit
import Derived.ProofKit
import Derived.OpenShut
import Derived.ShutString
import Derived.ChangeOld
import Derived.Lib.SmallJoins
namespace Go.Proofs.Ytldcciipicnooaa.fnExactUnitValue
open Go.ChangeShapes Go.WideShapes Go.ChangeAt Go.RowKit Go.Joins
open Go.ChangeMaps (open_string shut_string)

theorem own : ownKnob Try.prog.godebug = none := by kernel_rfl
theorem laidOut : laidOutB Try.prog = true := by kernel_rfl

set_option maxRecDepth 100000 in
set_option maxHeartbeats 1000000 in
theorem walk (s : ByteArray) (m e : Int) (w : World) (hs : s.size ≤ 9223372036854775807) :
    Calls Try.prog 7 #[.agg #[.string s, .int .i64 m, .int .i64 e]] w fun en w' => en = .returned (.bool true) ∧ Below w.heap.size w w' := by
  by_cases h : s.size ≤ 1048576
  · have hz : (if s.size ≤ 1048576 then 1048576 - (s.size : Int) else -1) = 1048576 - (s.size : Int) := if_pos h
    have HZ := Lib.hid hz
    clear hz
    obtain ⟨v, hv⟩ : ∃ v, unitF s.toList m e = v := ⟨_, rfl⟩
    have HV := Lib.hid hv
    clear hv
    obtain ⟨x, ok⟩ := v
    go_enter Try.func7, Try.ntmps7
    go_wp2_with (first | (go_at_call 34; (with_reducible refine (szUnit_any _ _ _ _ hs).mono ?_); rw [HZ.out]; rintro en w' ⟨rfl, o, rfl⟩) | (go_at_call 36; (with_reducible refine (toUnit_any _ _ _ _).mono ?_); rintro en w' ⟨rfl, o1, o2, o3, rfl⟩) | (go_at_call 35; (with_reducible refine (unitS_any _ _ _ _).mono ?_); rintro en w' ⟨he, o5, n5, hw⟩; rw [HV.out] at he; subst he; subst hw) | (go_at_call 37; (with_reducible refine (unitI_any _ _ _ _).mono ?_); rintro en w' ⟨he, o6, n6, hw⟩; rw [HV.out] at he; subst he; subst hw) | (refine wpl_widen 26 Try.underlying24 Try.underlying39 rfl rfl rfl rfl ?_; intro r1 n1 hr1) | (refine wpl_widen 28 Try.underlying24 Try.underlying39 rfl rfl rfl rfl ?_; intro r2 n2 hr2) | (go_at_call 38; (with_reducible refine (sameFloat_same _ _ _ (hr1.out.1.trans hr2.out.1.symm)).mono ?_); rintro e w8 ⟨rfl, m8, rfl⟩))
    all_goals
      go_ret
      refine ⟨rfl, ?_⟩
      repeat (first | exact Below.refl _ _ | assumption | refine bl_drewN ?_ _ | refine bl_drew ?_ | refine bl_alloc ?_ _ | refine bl_set ?_ (by first | (simp; done) | (simp; omega) | omega | (simp [World.setCell]; done) | (simp [World.setCell]; omega)) _ | refine bl_call ?_ (by assumption))
  · have hz : (if s.size ≤ 1048576 then 1048576 - (s.size : Int) else -1) = -1 := if_neg h
    have HZ := Lib.hid hz
    clear hz
    go_enter Try.func7, Try.ntmps7
    go_wp2_with (go_at_call 34; (with_reducible refine (szUnit_any _ _ _ _ hs).mono ?_); rw [HZ.out]; rintro en w' ⟨rfl, o, rfl⟩)
    go_ret
    refine ⟨rfl, ?_⟩
    repeat (first | exact Below.refl _ _ | assumption | refine bl_drewN ?_ _ | refine bl_drew ?_ | refine bl_alloc ?_ _ | refine bl_set ?_ (by first | (simp; done) | (simp; omega) | omega | (simp [World.setCell]; done) | (simp [World.setCell]; omega)) _ | refine bl_call ?_ (by assumption))

set_option maxRecDepth 100000 in
theorem lifted (os : Os) (started : os.Started) (H : Type) (enc : TypeId × Value → H) :
    ReturnsInHanded {} Try.checked os 7 .any (Rows.fnExactUnitValueSpec.pre6 enc Try.prog Try.f7 Rows.fnExactUnitValueRow.domain false) (Rows.fnExactUnitValueSpec.post enc Try.prog Try.f7 false true false false) := by
  refine returnsInHanded_of_change (C := Try.checked) own started (by kernel_rfl) Try.func7
    (ChangeSpec.witness6 (enc := enc) (C := Try.checked) false ⟨#[], #[.agg #[.string ByteArray.empty, .int .i64 0, .int .i64 0]], []⟩ 8 (by kernel_rfl) (by kernel_rfl) (by kernel_rfl) (by kernel_rfl)) ?_
  intro W base args ds gs before hval0 hW hcnd _
  have hval : ∀ (j : Nat) t v, Try.f7.params[j]? = some t → args[j]? = some v → Value.okWide Try.prog W .any base t v := hval0
  have hW' := hW
  obtain ⟨p, q, hA0, hV, rfl, hfz, hnd⟩ := hW
  have hA : DataW.TrodAll enc Try.prog W 0 (fun _ => true) true Try.f7.params.toList args.toList ds p := hA0
  rw [Try.params7] at hA hval
  obtain ⟨v0, vs0, d0, ds0, p0, q0, hargs, rfl, rfl, h0, r0⟩ := trodAll_cons hA
  obtain ⟨rfl, rfl, rfl⟩ := trodAll_nil r0
  obtain rfl : args = #[v0] := by cases args; simp_all
  obtain ⟨rfl, rfl⟩ := trodVars_none hV
  have k0 := h0
  have lt0 : ∀ x ∈ p0, x.block < W.heap.size := by obtain ⟨m, hm⟩ := k0; exact DataW.trod_lt m _ _ _ hm
  obtain ⟨c0, c1, c2, y0, y1, y2, n, rfl, _, _, g0, g1, g2⟩ := open_agg3 Try.underlying50 (by kernel_rfl) (by kernel_rfl) (hval 0 50 v0 rfl rfl) h0
  obtain ⟨s, e0, _, hs⟩ := DataW.trod_string Try.underlying9 g0
  obtain ⟨m, e1, _, _⟩ := DataW.trod_int Try.underlying3 g1
  obtain ⟨e, e2, _, _⟩ := DataW.trod_int Try.underlying3 g2
  simp at e0 e1 e2
  subst e0; subst e1; subst e2
  clear hA0 hval0
  refine (walk s m e W (by unfold maxLen at hs; omega)).mono fun e W' ⟨he, bel⟩ => ?_
  subst he
  exact ⟨_, rfl, _, _, _, [], _, [], hW', trodAll_mk1 (shut_bool Try.underlying4 _), (trodAll_cons_mk (Below.trod laidOut (by kernel_rfl) (of_decide_eq_true (by kernel_rfl)) k0 bel lt0) trodAll_mk0), rfl, bel.frame _, fun h => by cases h⟩

theorem proved : Rows.FnExactUnitValueSaid :=
  OpenClaim.holds_of_wide 7 Try.f7 rfl rfl rfl rfl rfl rfl rfl ⟨rfl, rfl, rfl, rfl, rfl⟩ rfl rfl rfl rfl rfl (by kernel_rfl) Try.func7 (by kernel_rfl)
    (of_decide_eq_true (by kernel_rfl)) (by unfold Func.isWrapper; first | (rw [if_pos (by decide +kernel)]; kernel_rfl) | (rw [if_neg (by decide +kernel)]; exact ⟨rfl, rfl⟩))
    (fun os started H enc _ => lifted os started H enc)
#print axioms proved
end Go.Proofs.Ytldcciipicnooaa.fnExactUnitValue
