/- For every input laws.FnQuantumSigns returns true: with the sign of a number or of a unit turned the number of units has its sign turned. No condition. -/
import Derived.Test.YtldcciipicnooaaSign
import Derived.Test.YtldcciipicnooaaQuantS
import Derived.ProofKit
import Derived.OpenShut
import Derived.ShutString
import Derived.ChangeOld
import Derived.Lib.SmallJoins
namespace Go.Proofs.Ytldcciipicnooaa.fnQuantumSigns
open Go.ChangeShapes Go.WideShapes Go.ChangeAt Go.RowKit Go.Joins
open Go.ChangeMaps (open_string shut_string)
attribute [local go_sem] run_neg_float

theorem own : ownKnob Try.prog.godebug = none := by kernel_rfl
theorem laidOut : laidOutB Try.prog = true := by kernel_rfl

theorem quant_range (x : Nat) (u : Nat × Bool) : -2000000000 ≤ (quantF x u).1 ∧ (quantF x u).1 ≤ 2000000000 := by
  unfold quantF
  split
  · split
    · exact ⟨by decide, by decide⟩
    · rename_i q _
      split
      · rename_i hs
        have h := (small_flN hs).2
        have h2 : rnd (amt q) ≤ flN (amt q) + 1 := by unfold rnd; split <;> omega
        show -2000000000 ≤ sgI _ _ ∧ sgI _ _ ≤ 2000000000
        unfold sgI
        split <;> omega
      · exact ⟨by decide, by decide⟩
  · exact ⟨by decide, by decide⟩

set_option maxRecDepth 100000 in
set_option maxHeartbeats 1000000 in
theorem walk_big (A : Option Addr) (len cap : Nat) (w : World) (h : 1048576 < len) :
    Calls Try.prog 9 #[.slice A len cap] w fun en w' => en = .returned (.bool true) ∧ Below w.heap.size w w' := by
  have h' : (1048576 : Int) < (len : Int) := by omega
  go_enter Try.func9, Try.ntmps9
  go_wp2_with (go_at_call 18; (with_reducible refine (big_any _ _ _ _).mono ?_); rintro en w9 ⟨rfl, hw9⟩; have hw9x := hw9.symm; clear hw9; subst hw9x)
  go_ret
  exact ⟨rfl, by repeat (first | exact Below.refl _ _ | assumption | refine bl_drewN ?_ _ | refine bl_drew ?_ | refine bl_alloc ?_ _ | refine bl_set ?_ (by first | (simp; done) | (simp; omega) | omega | (simp [World.setCell]; done) | (simp [World.setCell]; omega)) _ | refine bl_call ?_ (by assumption))⟩

theorem t43 : (txt [43]).toList = [43] := ByteArray.toList_mk [43]
theorem t45 : (txt [45]).toList = [45] := ByteArray.toList_mk [45]
theorem facts (x : Nat) (s t : ByteArray) (m e : Int) (h : (s = txt [43] ∧ t = txt [45]) ∨ (s = txt [45] ∧ t = txt [43])) :
    ∃ n ok, quantF x (unitF s.toList m e) = (n, ok) ∧ quantF (Op.negFloat .f32 x) (unitF s.toList m e) = (-n, ok) ∧ quantF x (unitF t.toList m e) = (-n, ok) ∧ -2000000000 ≤ n ∧ n ≤ 2000000000 := by
  have h' : (s.toList = [43] ∧ t.toList = [45]) ∨ (s.toList = [45] ∧ t.toList = [43]) := by
    rcases h with ⟨rfl, rfl⟩ | ⟨rfl, rfl⟩
    · exact .inl ⟨t43, t45⟩
    · exact .inr ⟨t45, t43⟩
  obtain ⟨a, b⟩ := quant_signs x s.toList t.toList m e h'
  obtain ⟨r1, r2⟩ := quant_range x (unitF s.toList m e)
  exact ⟨_, _, rfl, a, b, r1, r2⟩

set_option maxRecDepth 100000 in
set_option maxHeartbeats 1000000 in
theorem walk_small (A : Option Addr) (len cap : Nat) (w : World) (h : len ≤ 1048576) (hlen : len ≤ maxLen) (hrow : RowOk w.heap.size w A len) :
    Calls Try.prog 9 #[.slice A len cap] w fun en w' => en = .returned (.bool true) ∧ Below w.heap.size w w' := by
  have h' : ¬ (1048576 : Int) < (len : Int) := by omega
  go_enter Try.func9, Try.ntmps9
  go_wp2_with (first | (go_at_call 18; (with_reducible refine (big_any _ _ _ _).mono ?_); rintro en w9 ⟨rfl, hw9⟩; have hw9x := hw9.symm; clear hw9; subst hw9x) | (go_at_call 41; (with_reducible refine (drawUnit_any _ _ _ _ hlen (hrow.more (by repeat (first | exact Below.refl _ _ | assumption | refine bl_drewN ?_ _ | refine bl_drew ?_ | refine bl_alloc ?_ _ | refine bl_set ?_ (by first | (simp; done) | (simp; omega) | omega | (simp [World.setCell]; done) | (simp [World.setCell]; omega)) _ | refine bl_call ?_ (by assumption))) (by omega))).mono ?_); rintro en w1 ⟨s, m, e, x1, x2, y1, y2, z1, z2, hs, hm1, hm2, he1, he2, rfl, hb1⟩))
  · have hst : (s = txt [43] ∧ (⟨#[43]⟩ : ByteArray) = txt [45]) ∨ (s = txt [45] ∧ (⟨#[43]⟩ : ByteArray) = txt [43]) := by
      rcases hs with rfl | rfl
      · first | exact .inl ⟨rfl, rfl⟩ | (exfalso; rename_i hb; rw [t43] at hb; exact absurd hb (by decide))
      · first | exact .inr ⟨rfl, rfl⟩ | (exfalso; rename_i hb; rw [t45] at hb; exact absurd hb (by decide))
    obtain ⟨n, ok, q1, q2, q3, q4, q5⟩ := facts x1 s ⟨#[43]⟩ m e hst
    have HQ1 := Lib.hid q1
    have HQ2 := Lib.hid q2
    have HQ3 := Lib.hid q3
    clear q1 q2 q3 hst
    go_wp2_with (first | (go_at_call 40; (with_reducible refine (quantI_any _ _ _ _ _).mono ?_); rintro en w6 ⟨he, o6, oo6, n6, hw⟩; (first | rw [HQ1.out] at he | rw [HQ2.out] at he | rw [HQ3.out] at he); subst he; subst hw) | (go_at_call 39; (with_reducible refine (quantS_any _ _ _ _ _).mono ?_); rintro en w7 ⟨he, o7, oo7, n7, hw⟩; rw [HQ1.out] at he; subst he; subst hw))
    go_ret
    exact ⟨rfl, by repeat (first | exact Below.refl _ _ | assumption | refine bl_drewN ?_ _ | refine bl_drew ?_ | refine bl_alloc ?_ _ | refine bl_set ?_ (by first | (simp; done) | (simp; omega) | omega | (simp [World.setCell]; done) | (simp [World.setCell]; omega)) _ | refine bl_call ?_ (by assumption))⟩
  · have hst : (s = txt [43] ∧ (⟨#[45]⟩ : ByteArray) = txt [45]) ∨ (s = txt [45] ∧ (⟨#[45]⟩ : ByteArray) = txt [43]) := by
      rcases hs with rfl | rfl
      · first | exact .inl ⟨rfl, rfl⟩ | (exfalso; rename_i hb; rw [t43] at hb; exact absurd hb (by decide))
      · first | exact .inr ⟨rfl, rfl⟩ | (exfalso; rename_i hb; rw [t45] at hb; exact absurd hb (by decide))
    obtain ⟨n, ok, q1, q2, q3, q4, q5⟩ := facts x1 s ⟨#[45]⟩ m e hst
    have HQ1 := Lib.hid q1
    have HQ2 := Lib.hid q2
    have HQ3 := Lib.hid q3
    clear q1 q2 q3 hst
    go_wp2_with (first | (go_at_call 40; (with_reducible refine (quantI_any _ _ _ _ _).mono ?_); rintro en w6 ⟨he, o6, oo6, n6, hw⟩; (first | rw [HQ1.out] at he | rw [HQ2.out] at he | rw [HQ3.out] at he); subst he; subst hw) | (go_at_call 39; (with_reducible refine (quantS_any _ _ _ _ _).mono ?_); rintro en w7 ⟨he, o7, oo7, n7, hw⟩; rw [HQ1.out] at he; subst he; subst hw))
    go_ret
    exact ⟨rfl, by repeat (first | exact Below.refl _ _ | assumption | refine bl_drewN ?_ _ | refine bl_drew ?_ | refine bl_alloc ?_ _ | refine bl_set ?_ (by first | (simp; done) | (simp; omega) | omega | (simp [World.setCell]; done) | (simp [World.setCell]; omega)) _ | refine bl_call ?_ (by assumption))⟩

theorem walk (A : Option Addr) (len cap : Nat) (w : World) (hlen : len ≤ maxLen) (hrow : RowOk w.heap.size w A len) :
    Calls Try.prog 9 #[.slice A len cap] w fun en w' => en = .returned (.bool true) ∧ Below w.heap.size w w' := by
  rcases Nat.lt_or_ge 1048576 len with h | h
  · exact walk_big A len cap w h
  · exact walk_small A len cap w h hlen hrow

set_option maxRecDepth 100000 in
theorem lifted (os : Os) (started : os.Started) (H : Type) (enc : TypeId × Value → H) :
    ReturnsInHanded {} Try.checked os 9 .any (Rows.fnQuantumSignsSpec.pre6 enc Try.prog Try.f9 Rows.fnQuantumSignsRow.domain false) (Rows.fnQuantumSignsSpec.post enc Try.prog Try.f9 false true false false) := by
  refine returnsInHanded_of_change (C := Try.checked) own started (by kernel_rfl) Try.func9
    (ChangeSpec.witness6 (enc := enc) (C := Try.checked) false ⟨#[], #[.slice none 0 0], []⟩ 8 (by kernel_rfl) (by kernel_rfl) (by kernel_rfl) (by kernel_rfl)) ?_
  intro W base args ds gs before hval0 hW hcnd _
  have hval : ∀ (j : Nat) t v, Try.f9.params[j]? = some t → args[j]? = some v → Value.okWide Try.prog W .any base t v := hval0
  have hW' := hW
  obtain ⟨p, q, hA0, hV, rfl, hfz, hnd⟩ := hW
  have hA : DataW.TrodAll enc Try.prog W 0 (fun _ => true) true Try.f9.params.toList args.toList ds p := hA0
  rw [Try.params9] at hA hval
  obtain ⟨v0, vs0, d0, ds0, p0, q0, hargs, rfl, rfl, h0, r0⟩ := trodAll_cons hA
  obtain ⟨rfl, rfl, rfl⟩ := trodAll_nil r0
  obtain rfl : args = #[v0] := by cases args; simp_all
  obtain ⟨rfl, rfl⟩ := trodVars_none hV
  obtain ⟨a0, len0, cap0, rfl⟩ := okWide_slice Try.underlying34 (hval 0 34 v0 rfl rfl)
  have k0 := h0
  have lt0 : ∀ x ∈ p0, x.block < W.heap.size := by obtain ⟨m, hm⟩ := k0; exact DataW.trod_lt m _ _ _ hm
  obtain ⟨hl, hr⟩ : len0 ≤ maxLen ∧ RowOk W.heap.size W a0 len0 := by
    obtain ⟨fuel, hf⟩ := h0
    rcases open_ints Try.underlying34 Try.underlying5 (by kernel_rfl) hf with ⟨hcs, _⟩ | ⟨x, l, c, zs, hcs, _, hl, hm, hz, _, hcell, hwz⟩
    · simp [Value.cells] at hcs
      obtain ⟨rfl, rfl, rfl⟩ := hcs
      exact row_of (zs := []) (.inl ⟨rfl, rfl, rfl, rfl⟩)
    · simp [Value.cells] at hcs
      obtain ⟨rfl, rfl, rfl⟩ := hcs
      exact row_of (.inr ⟨_, rfl, hl, hm, by simpa using hz, hcell, hwz⟩)
  clear hA0 hval0
  refine (walk a0 len0 cap0 W hl hr).mono fun e W' ⟨he, bel⟩ => ?_
  subst he
  exact ⟨_, rfl, _, _, _, [], _, [], hW', trodAll_mk1 (shut_bool Try.underlying4 _), (trodAll_cons_mk (Below.trod laidOut (by kernel_rfl) (of_decide_eq_true (by kernel_rfl)) k0 bel lt0) trodAll_mk0), rfl, bel.frame _, fun h => by cases h⟩

theorem proved : Rows.FnQuantumSignsSaid :=
  OpenClaim.holds_of_wide 9 Try.f9 rfl rfl rfl rfl rfl rfl rfl ⟨rfl, rfl, rfl, rfl, rfl⟩ rfl rfl rfl rfl rfl (by kernel_rfl) Try.func9 (by kernel_rfl)
    (of_decide_eq_true (by kernel_rfl)) (by unfold Func.isWrapper; first | (rw [if_pos (by decide +kernel)]; kernel_rfl) | (rw [if_neg (by decide +kernel)]; exact ⟨rfl, rfl⟩))
    (fun os started H enc _ => lifted os started H enc)
#print axioms proved
end Go.Proofs.Ytldcciipicnooaa.fnQuantumSigns
