/- For every input laws.FnExactQuantumOf returns true: the program's QuantumOf and the reference's come to the same number. No condition. -/
import Derived.Test.YtldcciipicnooaaQuantS
import Derived.ProofKit
import Derived.OpenShut
import Derived.ShutString
import Derived.ChangeOld
import Derived.Lib.SmallJoins
namespace Go.Proofs.Ytldcciipicnooaa.fnExactQuantumOf
open Go.ChangeShapes Go.WideShapes Go.ChangeAt Go.RowKit Go.Joins
open Go.ChangeMaps (open_string shut_string)

theorem own : ownKnob Try.prog.godebug = none := by kernel_rfl
theorem laidOut : laidOutB Try.prog = true := by kernel_rfl

set_option maxRecDepth 100000 in
set_option maxHeartbeats 1000000 in
theorem walk (x : Nat) (s : ByteArray) (m e : Int) (w : World) (hs : s.size ≤ 9223372036854775807) :
    Calls Try.prog 8 #[.float .f32 x, .agg #[.string s, .int .i64 m, .int .i64 e]] w fun en w' => en = .returned (.bool true) ∧ Below w.heap.size w w' := by
  by_cases h : s.size ≤ 1048576
  · have hz : (if s.size ≤ 1048576 then 1048576 - (s.size : Int) else -1) = 1048576 - (s.size : Int) := if_pos h
    have HZ := Lib.hid hz
    clear hz
    obtain ⟨v, hv⟩ : ∃ v, quantF x (unitF s.toList m e) = v := ⟨_, rfl⟩
    have HV := Lib.hid hv
    clear hv
    obtain ⟨y, ok⟩ := v
    go_enter Try.func8, Try.ntmps8
    go_wp2_with (first | (go_at_call 34; (with_reducible refine (szUnit_any _ _ _ _ hs).mono ?_); rw [HZ.out]; rintro en w' ⟨rfl, o, rfl⟩) | (go_at_call 36; (with_reducible refine (toUnit_any _ _ _ _).mono ?_); rintro en w' ⟨rfl, o1, o2, o3, rfl⟩) | (go_at_call 39; (with_reducible refine (quantS_any _ _ _ _ _).mono ?_); rintro en w' ⟨he, o5, o15, n5, hw⟩; rw [HV.out] at he; subst he; subst hw) | (go_at_call 40; (with_reducible refine (quantI_any _ _ _ _ _).mono ?_); rintro en w' ⟨he, o6, o16, n6, hw⟩; rw [HV.out] at he; subst he; subst hw))
    all_goals
      go_ret
      refine ⟨rfl, ?_⟩
      repeat (first | exact Below.refl _ _ | assumption | refine bl_drewN ?_ _ | refine bl_drew ?_ | refine bl_alloc ?_ _ | refine bl_set ?_ (by first | (simp; done) | (simp; omega) | omega | (simp [World.setCell]; done) | (simp [World.setCell]; omega)) _ | refine bl_call ?_ (by assumption))
  · have hz : (if s.size ≤ 1048576 then 1048576 - (s.size : Int) else -1) = -1 := if_neg h
    have HZ := Lib.hid hz
    clear hz
    go_enter Try.func8, Try.ntmps8
    go_wp2_with (go_at_call 34; (with_reducible refine (szUnit_any _ _ _ _ hs).mono ?_); rw [HZ.out]; rintro en w' ⟨rfl, o, rfl⟩)
    go_ret
    refine ⟨rfl, ?_⟩
    repeat (first | exact Below.refl _ _ | assumption | refine bl_drewN ?_ _ | refine bl_drew ?_ | refine bl_alloc ?_ _ | refine bl_set ?_ (by first | (simp; done) | (simp; omega) | omega | (simp [World.setCell]; done) | (simp [World.setCell]; omega)) _ | refine bl_call ?_ (by assumption))

set_option maxRecDepth 100000 in
theorem lifted (os : Os) (started : os.Started) (H : Type) (enc : TypeId × Value → H) :
    ReturnsInHanded {} Try.checked os 8 .any (Rows.fnExactQuantumOfSpec.pre6 enc Try.prog Try.f8 Rows.fnExactQuantumOfRow.domain false) (Rows.fnExactQuantumOfSpec.post enc Try.prog Try.f8 false true false false) := by
  refine returnsInHanded_of_change (C := Try.checked) own started (by kernel_rfl) Try.func8
    (ChangeSpec.witness6 (enc := enc) (C := Try.checked) false ⟨#[], #[.float .f32 0, .agg #[.string ByteArray.empty, .int .i64 0, .int .i64 0]], []⟩ 8 (by kernel_rfl) (by kernel_rfl) (by kernel_rfl) (by kernel_rfl)) ?_
  intro W base args ds gs before hval0 hW hcnd _
  have hval : ∀ (j : Nat) t v, Try.f8.params[j]? = some t → args[j]? = some v → Value.okWide Try.prog W .any base t v := hval0
  have hW' := hW
  obtain ⟨p, q, hA0, hV, rfl, hfz, hnd⟩ := hW
  have hA : DataW.TrodAll enc Try.prog W 0 (fun _ => true) true Try.f8.params.toList args.toList ds p := hA0
  rw [Try.params8] at hA hval
  obtain ⟨vx, v0, dx, d0, px, p0, rfl, rfl, rfl, hx, h0⟩ := trodAll_two hA
  obtain ⟨rfl, rfl⟩ := trodVars_none hV
  have kx := hx
  have k0 := h0
  have ltx : ∀ x ∈ px, x.block < W.heap.size := by obtain ⟨m, hm⟩ := kx; exact DataW.trod_lt m _ _ _ hm
  have lt0 : ∀ x ∈ p0, x.block < W.heap.size := by obtain ⟨m, hm⟩ := k0; exact DataW.trod_lt m _ _ _ hm
  obtain ⟨x, rfl, _, _⟩ := open_float Try.underlying24 (hval 0 24 vx rfl rfl) hx
  obtain ⟨c0, c1, c2, y0, y1, y2, n, rfl, _, _, g0, g1, g2⟩ := open_agg3 Try.underlying50 (by kernel_rfl) (by kernel_rfl) (hval 1 50 v0 rfl rfl) h0
  obtain ⟨s, e0, _, hs⟩ := DataW.trod_string Try.underlying9 g0
  obtain ⟨m, e1, _, _⟩ := DataW.trod_int Try.underlying3 g1
  obtain ⟨e, e2, _, _⟩ := DataW.trod_int Try.underlying3 g2
  simp at e0 e1 e2
  subst e0; subst e1; subst e2
  clear hA0 hval0
  refine (walk x s m e W (by unfold maxLen at hs; omega)).mono fun e W' ⟨he, bel⟩ => ?_
  subst he
  exact ⟨_, rfl, _, _, _, [], _, [], hW', trodAll_mk1 (shut_bool Try.underlying4 _), trodAll_cons_mk (Below.trod laidOut (by kernel_rfl) (of_decide_eq_true (by kernel_rfl)) kx bel ltx) (trodAll_cons_mk (Below.trod laidOut (by kernel_rfl) (of_decide_eq_true (by kernel_rfl)) k0 bel lt0) trodAll_mk0), rfl, bel.frame _, fun h => by cases h⟩

theorem proved : Rows.FnExactQuantumOfSaid :=
  OpenClaim.holds_of_wide 8 Try.f8 rfl rfl rfl rfl rfl rfl rfl ⟨rfl, rfl, rfl, rfl, rfl⟩ rfl rfl rfl rfl rfl (by kernel_rfl) Try.func8 (by kernel_rfl)
    (of_decide_eq_true (by kernel_rfl)) (by unfold Func.isWrapper; first | (rw [if_pos (by decide +kernel)]; kernel_rfl) | (rw [if_neg (by decide +kernel)]; exact ⟨rfl, rfl⟩))
    (fun os started H enc _ => lifted os started H enc)
#print axioms proved
end Go.Proofs.Ytldcciipicnooaa.fnExactQuantumOf
