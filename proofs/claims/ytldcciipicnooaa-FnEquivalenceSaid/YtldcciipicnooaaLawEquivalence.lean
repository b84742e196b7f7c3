/- For every input laws.FnEquivalence returns true: equality within units is an equivalence of the numbers that have so many units. No condition. -/
import Derived.Test.YtldcciipicnooaaPair
import Derived.Deep.RegionWith
import Derived.ProofKit
import Derived.OpenShut
import Derived.ShutString
import Derived.ChangeOld
import Derived.Lib.SmallJoins
namespace Go.Proofs.Ytldcciipicnooaa.fnEquivalence
open Go.ChangeShapes Go.WideShapes Go.ChangeAt Go.RowKit Go.Joins
open Go.ChangeMaps (open_string shut_string)
attribute [local go_sem] run_neg_float

theorem own : ownKnob Try.prog.godebug = none := by kernel_rfl
theorem laidOut : laidOutB Try.prog = true := by kernel_rfl

set_option maxRecDepth 100000 in
set_option maxHeartbeats 1000000 in
theorem walk_big (A : Option Addr) (len cap : Nat) (w : World) (h : 1048576 < len) :
    Calls Try.prog 11 #[.slice A len cap] w fun en w' => en = .returned (.bool true) ∧ Below w.heap.size w w' := by
  have h' : (1048576 : Int) < (len : Int) := by omega
  go_enter Try.func11, Try.ntmps11
  go_wp2_with (go_at_call 18; (with_reducible refine (big_any _ _ _ _).mono ?_); rintro en w9 ⟨rfl, hw9⟩; have hw9x := hw9.symm; clear hw9; subst hw9x)
  go_ret
  exact ⟨rfl, by repeat (first | exact Below.refl _ _ | assumption | refine bl_drewN ?_ _ | refine bl_drew ?_ | refine bl_alloc ?_ _ | refine bl_set ?_ (by first | (simp; done) | (simp; omega) | omega | (simp [World.setCell]; done) | (simp [World.setCell]; omega)) _ | refine bl_call ?_ (by assumption))⟩


set_option maxRecDepth 100000 in
set_option maxHeartbeats 4000000 in
theorem walk_small (A : Option Addr) (len cap : Nat) (w : World) (h : len ≤ 1048576) (hlen : len ≤ maxLen) (hrow : RowOk w.heap.size w A len) :
    Calls Try.prog 11 #[.slice A len cap] w fun en w' => en = .returned (.bool true) ∧ Below w.heap.size w w' := by
  have h' : ¬ (1048576 : Int) < (len : Int) := by omega
  go_enter Try.func11, Try.ntmps11
  go_wp2_with (first | (go_at_call 18; (with_reducible refine (big_any _ _ _ _).mono ?_); rintro en w9 ⟨rfl, hw9⟩; have hw9x := hw9.symm; clear hw9; subst hw9x) | (go_at_call 41; (with_reducible refine (drawUnit_any _ _ _ _ hlen (hrow.more (by repeat (first | exact Below.refl _ _ | assumption | refine bl_drewN ?_ _ | refine bl_drew ?_ | refine bl_alloc ?_ _ | refine bl_set ?_ (by first | (simp; done) | (simp; omega) | omega | (simp [World.setCell]; done) | (simp [World.setCell]; omega)) _ | refine bl_call ?_ (by assumption))) (by omega))).mono ?_); rintro en w1 ⟨s, m, e, x1, x2, y1, y2, z1, z2, hs, hm1, hm2, he1, he2, rfl, hb1⟩))
  obtain ⟨v, hv⟩ : ∃ v, pairF (x1, x2) (unitF s.toList m e) = v := ⟨_, rfl⟩
  obtain ⟨p, hp⟩ : ∃ v, eqF (x1, x2) (y1, y2) (unitF s.toList m e) = v := ⟨_, rfl⟩
  obtain ⟨q, hq⟩ : ∃ v, eqF (y1, y2) (z1, z2) (unitF s.toList m e) = v := ⟨_, rfl⟩
  obtain ⟨r, hr⟩ : ∃ v, eqF (x1, x2) (z1, z2) (unitF s.toList m e) = v := ⟨_, rfl⟩
  have hpqr : p = true → q = true → r = true := fun a b => by rw [← hr]; exact eqF_trans (hp.trans a) (hq.trans b)
  have E1 : Hid (eqF (x1, x2) (x1, x2) (unitF s.toList m e) = v.2.2) := Lib.hid (by rw [eqF_self, hv])
  have E2 := Lib.hid hp
  have E3 : Hid (eqF (y1, y2) (x1, x2) (unitF s.toList m e) = p) := Lib.hid (by rw [eqF_comm]; exact hp)
  have E4 := Lib.hid hq
  have E5 := Lib.hid hr
  have HP := Lib.hid hv
  clear hv hp hq hr
  obtain ⟨n1, n2, ok⟩ := v
  simp only at E1
  have B0 := Blk.new w1 54 #[.string s, .int .i64 m, .int .i64 e]
  go_wp2_with (first | (go_at_call 44; (with_reducible refine (pairI_any _ _ _ _ _ _).mono ?_); rintro en wA ⟨he, hbwA⟩; rw [HP.out] at he; subst he; have hlA := hbwA.size; have BA := Blk.below (by exact B0) hbwA (Blk.lt (by exact B0)); have u0 := BA.cell 0; have u1 := BA.cell 1; have u2 := BA.cell 2; simp only [List.getElem?_toArray, List.getElem?_cons_zero, List.getElem?_cons_succ] at u0 u1 u2) | (go_at_call 45; (with_reducible refine (pairS_any _ _ _ _ _ _).mono ?_); rintro en wB ⟨he, hbwB⟩; rw [HP.out] at he; subst he; have BB := Blk.below (by exact BA) hbwB (Blk.lt (by exact BA)); have u0 := BB.cell 0; have u1 := BB.cell 1; have u2 := BB.cell 2; simp only [List.getElem?_toArray, List.getElem?_cons_zero, List.getElem?_cons_succ] at u0 u1 u2))
  go_region_with (go_at_call 46; (with_reducible refine (equalWithin_any _ _ _ _ _ _ _ _).mono ?_); rintro en wC ⟨he, hbwC⟩; (first | rw [E1.out] at he | rw [E2.out] at he | rw [E3.out] at he | rw [E4.out] at he | rw [E5.out] at he); subst he; have BC := Blk.below (g := w1.heap.size) (t := 54) (cs := #[.string s, .int .i64 m, .int .i64 e]) (by first | exact BC | exact BB) hbwC (Blk.lt (t := 54) (cs := #[.string s, .int .i64 m, .int .i64 e]) (by first | exact BC | exact BB)); have u0 := BC.cell 0; have u1 := BC.cell 1; have u2 := BC.cell 2; simp only [List.getElem?_toArray, List.getElem?_cons_zero, List.getElem?_cons_succ] at u0 u1 u2)
  all_goals
    cases p
    · go_wp2_with (go_at_call 46; (with_reducible refine (equalWithin_any _ _ _ _ _ _ _ _).mono ?_); rintro en wC ⟨he, hbwC⟩; (first | rw [E1.out] at he | rw [E2.out] at he | rw [E3.out] at he | rw [E4.out] at he | rw [E5.out] at he); subst he; have BC := Blk.below (g := w1.heap.size) (t := 54) (cs := #[.string s, .int .i64 m, .int .i64 e]) (by first | exact BC | exact BB) hbwC (Blk.lt (t := 54) (cs := #[.string s, .int .i64 m, .int .i64 e]) (by first | exact BC | exact BB)); have u0 := BC.cell 0; have u1 := BC.cell 1; have u2 := BC.cell 2; simp only [List.getElem?_toArray, List.getElem?_cons_zero, List.getElem?_cons_succ] at u0 u1 u2)
      go_ret
      exact ⟨rfl, by repeat (first | exact Below.refl _ _ | assumption | refine bl_drewN ?_ _ | refine bl_drew ?_ | refine bl_alloc ?_ _ | refine bl_set ?_ (by first | (simp; done) | (simp; omega) | omega | (simp [World.setCell]; done) | (simp [World.setCell]; omega)) _ | refine bl_call ?_ (by assumption))⟩
    · cases q
      · go_wp2_with (go_at_call 46; (with_reducible refine (equalWithin_any _ _ _ _ _ _ _ _).mono ?_); rintro en wC ⟨he, hbwC⟩; (first | rw [E1.out] at he | rw [E2.out] at he | rw [E3.out] at he | rw [E4.out] at he | rw [E5.out] at he); subst he; have BC := Blk.below (g := w1.heap.size) (t := 54) (cs := #[.string s, .int .i64 m, .int .i64 e]) (by first | exact BC | exact BB) hbwC (Blk.lt (t := 54) (cs := #[.string s, .int .i64 m, .int .i64 e]) (by first | exact BC | exact BB)); have u0 := BC.cell 0; have u1 := BC.cell 1; have u2 := BC.cell 2; simp only [List.getElem?_toArray, List.getElem?_cons_zero, List.getElem?_cons_succ] at u0 u1 u2)
        go_ret
        exact ⟨rfl, by repeat (first | exact Below.refl _ _ | assumption | refine bl_drewN ?_ _ | refine bl_drew ?_ | refine bl_alloc ?_ _ | refine bl_set ?_ (by first | (simp; done) | (simp; omega) | omega | (simp [World.setCell]; done) | (simp [World.setCell]; omega)) _ | refine bl_call ?_ (by assumption))⟩
      · obtain rfl := hpqr rfl rfl
        go_wp2_with (go_at_call 46; (with_reducible refine (equalWithin_any _ _ _ _ _ _ _ _).mono ?_); rintro en wC ⟨he, hbwC⟩; (first | rw [E1.out] at he | rw [E2.out] at he | rw [E3.out] at he | rw [E4.out] at he | rw [E5.out] at he); subst he; have BC := Blk.below (g := w1.heap.size) (t := 54) (cs := #[.string s, .int .i64 m, .int .i64 e]) (by first | exact BC | exact BB) hbwC (Blk.lt (t := 54) (cs := #[.string s, .int .i64 m, .int .i64 e]) (by first | exact BC | exact BB)); have u0 := BC.cell 0; have u1 := BC.cell 1; have u2 := BC.cell 2; simp only [List.getElem?_toArray, List.getElem?_cons_zero, List.getElem?_cons_succ] at u0 u1 u2)
        go_ret
        exact ⟨rfl, by repeat (first | exact Below.refl _ _ | assumption | refine bl_drewN ?_ _ | refine bl_drew ?_ | refine bl_alloc ?_ _ | refine bl_set ?_ (by first | (simp; done) | (simp; omega) | omega | (simp [World.setCell]; done) | (simp [World.setCell]; omega)) _ | refine bl_call ?_ (by assumption))⟩
theorem walk (A : Option Addr) (len cap : Nat) (w : World) (hlen : len ≤ maxLen) (hrow : RowOk w.heap.size w A len) :
    Calls Try.prog 11 #[.slice A len cap] w fun en w' => en = .returned (.bool true) ∧ Below w.heap.size w w' := by
  rcases Nat.lt_or_ge 1048576 len with h | h
  · exact walk_big A len cap w h
  · exact walk_small A len cap w h hlen hrow

set_option maxRecDepth 100000 in
theorem lifted (os : Os) (started : os.Started) (H : Type) (enc : TypeId × Value → H) :
    ReturnsInHanded {} Try.checked os 11 .any (Rows.fnEquivalenceSpec.pre6 enc Try.prog Try.f11 Rows.fnEquivalenceRow.domain false) (Rows.fnEquivalenceSpec.post enc Try.prog Try.f11 false true false false) := by
  refine returnsInHanded_of_change (C := Try.checked) own started (by kernel_rfl) Try.func11
    (ChangeSpec.witness6 (enc := enc) (C := Try.checked) false ⟨#[], #[.slice none 0 0], []⟩ 8 (by kernel_rfl) (by kernel_rfl) (by kernel_rfl) (by kernel_rfl)) ?_
  intro W base args ds gs before hval0 hW hcnd _
  have hval : ∀ (j : Nat) t v, Try.f11.params[j]? = some t → args[j]? = some v → Value.okWide Try.prog W .any base t v := hval0
  have hW' := hW
  obtain ⟨p, q, hA0, hV, rfl, hfz, hnd⟩ := hW
  have hA : DataW.TrodAll enc Try.prog W 0 (fun _ => true) true Try.f11.params.toList args.toList ds p := hA0
  rw [Try.params11] at hA hval
  obtain ⟨v0, vs0, d0, ds0, p0, q0, hargs, rfl, rfl, h0, r0⟩ := trodAll_cons hA
  obtain ⟨rfl, rfl, rfl⟩ := trodAll_nil r0
  obtain rfl : args = #[v0] := by cases args; simp_all
  obtain ⟨rfl, rfl⟩ := trodVars_none hV
  obtain ⟨a0, len0, cap0, rfl⟩ := okWide_slice Try.underlying34 (hval 0 34 v0 rfl rfl)
  have k0 := h0
  have lt0 : ∀ x ∈ p0, x.block < W.heap.size := by obtain ⟨m, hm⟩ := k0; exact DataW.trod_lt m _ _ _ hm
  obtain ⟨hl, hr⟩ : len0 ≤ maxLen ∧ RowOk W.heap.size W a0 len0 := by
    obtain ⟨fuel, hf⟩ := h0
    rcases open_ints Try.underlying34 Try.underlying5 (by kernel_rfl) hf with ⟨hcs, _⟩ | ⟨x, l, c, zs, hcs, _, hl, hm, hz, _, hcell, hwz⟩
    · simp [Value.cells] at hcs
      obtain ⟨rfl, rfl, rfl⟩ := hcs
      exact row_of (zs := []) (.inl ⟨rfl, rfl, rfl, rfl⟩)
    · simp [Value.cells] at hcs
      obtain ⟨rfl, rfl, rfl⟩ := hcs
      exact row_of (.inr ⟨_, rfl, hl, hm, by simpa using hz, hcell, hwz⟩)
  clear hA0 hval0
  refine (walk a0 len0 cap0 W hl hr).mono fun e W' ⟨he, bel⟩ => ?_
  subst he
  exact ⟨_, rfl, _, _, _, [], _, [], hW', trodAll_mk1 (shut_bool Try.underlying4 _), (trodAll_cons_mk (Below.trod laidOut (by kernel_rfl) (of_decide_eq_true (by kernel_rfl)) k0 bel lt0) trodAll_mk0), rfl, bel.frame _, fun h => by cases h⟩

theorem proved : Rows.FnEquivalenceSaid :=
  OpenClaim.holds_of_wide 11 Try.f11 rfl rfl rfl rfl rfl rfl rfl ⟨rfl, rfl, rfl, rfl, rfl⟩ rfl rfl rfl rfl rfl (by kernel_rfl) Try.func11 (by kernel_rfl)
    (of_decide_eq_true (by kernel_rfl)) (by unfold Func.isWrapper; first | (rw [if_pos (by decide +kernel)]; kernel_rfl) | (rw [if_neg (by decide +kernel)]; exact ⟨rfl, rfl⟩))
    (fun os started H enc _ => lifted os started H enc)
#print axioms proved
end Go.Proofs.Ytldcciipicnooaa.fnEquivalence
