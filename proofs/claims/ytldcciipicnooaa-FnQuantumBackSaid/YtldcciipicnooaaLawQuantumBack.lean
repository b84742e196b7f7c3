/- For every input laws.FnQuantumBack returns true: a whole number of units, up to a million of them, is told as this number of units. No condition. -/
import Derived.Test.YtldcciipicnooaaBackW
import Derived.Test.YtldcciipicnooaaDrawI
import Derived.Deep.RegionWith
import Derived.ProofKit
import Derived.OpenShut
import Derived.ShutString
import Derived.ChangeOld
import Derived.Lib.SmallJoins
namespace Go.Proofs.Ytldcciipicnooaa.fnQuantumBack
open Go.ChangeShapes Go.WideShapes Go.ChangeAt Go.RowKit Go.Joins
open Go.ChangeMaps (open_string shut_string)
attribute [local go_sem] run_neg_float

theorem own : ownKnob Try.prog.godebug = none := by kernel_rfl
theorem laidOut : laidOutB Try.prog = true := by kernel_rfl

set_option maxRecDepth 100000 in
set_option maxHeartbeats 1000000 in
theorem walk_big (A : Option Addr) (len cap : Nat) (w : World) (h : 1048576 < len) :
    Calls Try.prog 10 #[.slice A len cap] w fun en w' => en = .returned (.bool true) ∧ Below w.heap.size w w' := by
  have h' : (1048576 : Int) < (len : Int) := by omega
  go_enter Try.func10, Try.ntmps10
  go_wp2_with (go_at_call 18; (with_reducible refine (big_any _ _ _ _).mono ?_); rintro en w9 ⟨rfl, hw9⟩; have hw9x := hw9.symm; clear hw9; subst hw9x)
  go_ret
  exact ⟨rfl, by repeat (first | exact Below.refl _ _ | assumption | refine bl_drewN ?_ _ | refine bl_drew ?_ | refine bl_alloc ?_ _ | refine bl_set ?_ (by first | (simp; done) | (simp; omega) | omega | (simp [World.setCell]; done) | (simp [World.setCell]; omega)) _ | refine bl_call ?_ (by assumption))⟩


theorem t43 : (txt [43]).toList = [43] := ByteArray.toList_mk [43]
theorem t45 : (txt [45]).toList = [45] := ByteArray.toList_mk [45]
set_option maxRecDepth 100000 in
set_option maxHeartbeats 4000000 in
theorem walk_small (A : Option Addr) (len cap : Nat) (w : World) (h : len ≤ 1048576) (hlen : len ≤ maxLen) (hrow : RowOk w.heap.size w A len) :
    Calls Try.prog 10 #[.slice A len cap] w fun en w' => en = .returned (.bool true) ∧ Below w.heap.size w w' := by
  have h' : ¬ (1048576 : Int) < (len : Int) := by omega
  go_enter Try.func10, Try.ntmps10
  go_wp2_with (first | (go_at_call 18; (with_reducible refine (big_any _ _ _ _).mono ?_); rintro en w9 ⟨rfl, hw9⟩; have hw9x := hw9.symm; clear hw9; subst hw9x) | (go_at_call 41; (with_reducible refine (drawUnit_any _ _ _ _ hlen (hrow.more (by repeat (first | exact Below.refl _ _ | assumption | refine bl_drewN ?_ _ | refine bl_drew ?_ | refine bl_alloc ?_ _ | refine bl_set ?_ (by first | (simp; done) | (simp; omega) | omega | (simp [World.setCell]; done) | (simp [World.setCell]; omega)) _ | refine bl_call ?_ (by assumption))) (by omega))).mono ?_); rintro en w1 ⟨s, m, e, x1, x2, y1, y2, z1, z2, hs, hm1, hm2, he1, he2, rfl, hb1⟩; have hl1 := hb1.size) | (go_at_call 42; (with_reducible refine (drawInUnits_any _ _ _ _ hlen (hrow.more (by repeat (first | exact Below.refl _ _ | assumption | refine bl_drewN ?_ _ | refine bl_drew ?_ | refine bl_alloc ?_ _ | refine bl_set ?_ (by first | (simp; done) | (simp; omega) | omega | (simp [World.setCell]; done) | (simp [World.setCell]; omega)) _ | refine bl_call ?_ (by assumption))) (by simp; omega))).mono ?_); rintro en w2 ⟨n, s2, m2, e2, rfl, hb2⟩; have hl2 := hb2.size; simp at hl2; have hlt2 : w1.heap.size < w2.heap.size := (by omega); have hn2 : ¬ w1.heap.size = w2.heap.size := (by omega); have hm2' : ¬ w2.heap.size = w1.heap.size := (by omega); have BB := Blk.below (Blk.new w1 54 #[.string s, .int .i64 m, .int .i64 e]) hb2 (by simp); have u0 := BB.cell 0; have u1 := BB.cell 1; have u2 := BB.cell 2; simp only [List.getElem?_toArray, List.getElem?_cons_zero, List.getElem?_cons_succ] at u0 u1 u2))
  all_goals
    have hs' : s.toList = [43] ∨ s.toList = [45] := by
      rcases hs with rfl | rfl
      · exact .inl t43
      · exact .inr t45
    obtain ⟨v, hu, -, -, -⟩ := unit_good (m := m) (e := e) hs' hm1 hm2 he1 he2
    have HU := Lib.hid hu
    have HS := Lib.hid hs'
    clear hu hs' hs
  · go_wp2_with (go_at_call 37; (with_reducible refine (unitI_any _ _ _ _).mono ?_); rintro en w' ⟨he, o, n1, hw⟩; rw [HU.out] at he; subst he; subst hw)
    go_ret
    exact ⟨rfl, by repeat (first | exact Below.refl _ _ | assumption | refine bl_drewN ?_ _ | refine bl_drew ?_ | refine bl_alloc ?_ _ | refine bl_set ?_ (by first | (simp; done) | (simp; omega) | omega | (simp [World.setCell]; done) | (simp [World.setCell]; omega)) _ | refine bl_call ?_ (by assumption))⟩
  · go_wp2_with (go_at_call 43; (with_reducible refine (inUnitsI_back _ _ _ _ _ (by omega) HS.out hm1 hm2 he1 he2).mono ?_); rintro en w3 ⟨x3, ok3, rfl, hq3, hb3⟩; have HQ3 := Lib.hid hq3; clear hq3; have hl3 := hb3.size; simp at hl3; have B3 := Blk.below (Blk.alloc BB (.cells #[.string s2, .int .i64 m2, .int .i64 e2] 54)) hb3 (by simp; omega); have u0 := B3.cell 0; have u1 := B3.cell 1; have u2 := B3.cell 2; simp only [List.getElem?_toArray, List.getElem?_cons_zero, List.getElem?_cons_succ] at u0 u1 u2)
    cases ok3
    · go_wp2_with (go_at_call 40; (with_reducible refine (quantI_any _ _ _ _ _).mono ?_); rintro en w6 ⟨rfl, o6, oo6, n6, rfl⟩)
      all_goals
        go_ret
        exact ⟨rfl, by repeat (first | exact Below.refl _ _ | assumption | refine bl_drewN ?_ _ | refine bl_drew ?_ | refine bl_alloc ?_ _ | refine bl_set ?_ (by first | (simp; done) | (simp; omega) | omega | (simp [World.setCell]; done) | (simp [World.setCell]; omega)) _ | refine bl_call ?_ (by assumption))⟩
    · have HQ4 := Lib.hid (HQ3.out rfl)
      go_wp2_with (go_at_call 40; (with_reducible refine (quantI_any _ _ _ _ _).mono ?_); rintro en w6 ⟨he, o6, oo6, n6, rfl⟩; rw [HQ4.out] at he; subst he)
      all_goals
        go_ret
        exact ⟨by first | rfl | simp, by repeat (first | exact Below.refl _ _ | assumption | refine bl_drewN ?_ _ | refine bl_drew ?_ | refine bl_alloc ?_ _ | refine bl_set ?_ (by first | (simp; done) | (simp; omega) | omega | (simp [World.setCell]; done) | (simp [World.setCell]; omega)) _ | refine bl_call ?_ (by assumption))⟩
  · go_wp2_with (go_at_call 37; (with_reducible refine (unitI_any _ _ _ _).mono ?_); rintro en w' ⟨he, o, n1, hw⟩; rw [HU.out] at he; subst he; subst hw)
    go_ret
    exact ⟨rfl, by repeat (first | exact Below.refl _ _ | assumption | refine bl_drewN ?_ _ | refine bl_drew ?_ | refine bl_alloc ?_ _ | refine bl_set ?_ (by first | (simp; done) | (simp; omega) | omega | (simp [World.setCell]; done) | (simp [World.setCell]; omega)) _ | refine bl_call ?_ (by assumption))⟩
theorem walk (A : Option Addr) (len cap : Nat) (w : World) (hlen : len ≤ maxLen) (hrow : RowOk w.heap.size w A len) :
    Calls Try.prog 10 #[.slice A len cap] w fun en w' => en = .returned (.bool true) ∧ Below w.heap.size w w' := by
  rcases Nat.lt_or_ge 1048576 len with h | h
  · exact walk_big A len cap w h
  · exact walk_small A len cap w h hlen hrow

set_option maxRecDepth 100000 in
theorem lifted (os : Os) (started : os.Started) (H : Type) (enc : TypeId × Value → H) :
    ReturnsInHanded {} Try.checked os 10 .any (Rows.fnQuantumBackSpec.pre6 enc Try.prog Try.f10 Rows.fnQuantumBackRow.domain false) (Rows.fnQuantumBackSpec.post enc Try.prog Try.f10 false true false false) := by
  refine returnsInHanded_of_change (C := Try.checked) own started (by kernel_rfl) Try.func10
    (ChangeSpec.witness6 (enc := enc) (C := Try.checked) false ⟨#[], #[.slice none 0 0], []⟩ 8 (by kernel_rfl) (by kernel_rfl) (by kernel_rfl) (by kernel_rfl)) ?_
  intro W base args ds gs before hval0 hW hcnd _
  have hval : ∀ (j : Nat) t v, Try.f10.params[j]? = some t → args[j]? = some v → Value.okWide Try.prog W .any base t v := hval0
  have hW' := hW
  obtain ⟨p, q, hA0, hV, rfl, hfz, hnd⟩ := hW
  have hA : DataW.TrodAll enc Try.prog W 0 (fun _ => true) true Try.f10.params.toList args.toList ds p := hA0
  rw [Try.params10] at hA hval
  obtain ⟨v0, vs0, d0, ds0, p0, q0, hargs, rfl, rfl, h0, r0⟩ := trodAll_cons hA
  obtain ⟨rfl, rfl, rfl⟩ := trodAll_nil r0
  obtain rfl : args = #[v0] := by cases args; simp_all
  obtain ⟨rfl, rfl⟩ := trodVars_none hV
  obtain ⟨a0, len0, cap0, rfl⟩ := okWide_slice Try.underlying34 (hval 0 34 v0 rfl rfl)
  have k0 := h0
  have lt0 : ∀ x ∈ p0, x.block < W.heap.size := by obtain ⟨m, hm⟩ := k0; exact DataW.trod_lt m _ _ _ hm
  obtain ⟨hl, hr⟩ : len0 ≤ maxLen ∧ RowOk W.heap.size W a0 len0 := by
    obtain ⟨fuel, hf⟩ := h0
    rcases open_ints Try.underlying34 Try.underlying5 (by kernel_rfl) hf with ⟨hcs, _⟩ | ⟨x, l, c, zs, hcs, _, hl, hm, hz, _, hcell, hwz⟩
    · simp [Value.cells] at hcs
      obtain ⟨rfl, rfl, rfl⟩ := hcs
      exact row_of (zs := []) (.inl ⟨rfl, rfl, rfl, rfl⟩)
    · simp [Value.cells] at hcs
      obtain ⟨rfl, rfl, rfl⟩ := hcs
      exact row_of (.inr ⟨_, rfl, hl, hm, by simpa using hz, hcell, hwz⟩)
  clear hA0 hval0
  refine (walk a0 len0 cap0 W hl hr).mono fun e W' ⟨he, bel⟩ => ?_
  subst he
  exact ⟨_, rfl, _, _, _, [], _, [], hW', trodAll_mk1 (shut_bool Try.underlying4 _), (trodAll_cons_mk (Below.trod laidOut (by kernel_rfl) (of_decide_eq_true (by kernel_rfl)) k0 bel lt0) trodAll_mk0), rfl, bel.frame _, fun h => by cases h⟩

theorem proved : Rows.FnQuantumBackSaid :=
  OpenClaim.holds_of_wide 10 Try.f10 rfl rfl rfl rfl rfl rfl rfl ⟨rfl, rfl, rfl, rfl, rfl⟩ rfl rfl rfl rfl rfl (by kernel_rfl) Try.func10 (by kernel_rfl)
    (of_decide_eq_true (by kernel_rfl)) (by unfold Func.isWrapper; first | (rw [if_pos (by decide +kernel)]; kernel_rfl) | (rw [if_neg (by decide +kernel)]; exact ⟨rfl, rfl⟩))
    (fun os started H enc _ => lifted os started H enc)
#print axioms proved
end Go.Proofs.Ytldcciipicnooaa.fnQuantumBack
