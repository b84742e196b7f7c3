/- For every input laws.FnExactAgree returns true: the program's Agree returns what the reference's returns, and leaves its argument as it is. No condition. -/
import Derived.Test.YtldcciipicnooaaAgr
import Derived.Laws.Cover2
import Derived.Deep.Slices
import Derived.Deep.Fields
import Derived.ChangeSame
import Derived.ProofKit
import Derived.OpenShut
import Derived.ShutString
import Derived.ChangeOld
import Derived.Lib.SmallJoins
namespace Go.Proofs.Ytldcciipicnooaa.fnExactAgree
open Go.ChangeShapes Go.WideShapes Go.ChangeAt Go.RowKit Go.Joins Go.Deep
open Go.ChangeMaps (open_string shut_string)
attribute [local go_sem] run_store_float run_store_complex

theorem own : ownKnob Try.prog.godebug = none := by kernel_rfl
theorem laidOut : laidOutB Try.prog = true := by kernel_rfl

set_option maxRecDepth 100000 in
set_option maxHeartbeats 1000000 in
theorem walk_big (A : Option Addr) (len cap : Nat) (w : World) (h : 1048576 < len) (hm : len ≤ maxLen) :
    Calls Try.prog 3 #[.slice A len cap] w fun en w' => en = .returned (.bool true) ∧ Below w.heap.size w w' := by
  have hz : (if len ≤ 1048576 then 1048576 - (len : Int) else -1) = -1 := if_neg (by omega)
  have HZ := Lib.hid hz
  clear hz
  have hl : len ≤ 9223372036854775807 := by unfold maxLen at hm; omega
  go_enter Try.func3, Try.ntmps3
  go_wp2_with (go_at_call 12; (with_reducible refine (szSpanS_any _ _ _ _ hl).mono ?_); rw [HZ.out]; rintro en w' ⟨rfl, rfl⟩)
  go_ret
  exact ⟨rfl, by repeat (first | exact Below.refl _ _ | assumption | refine bl_drewN ?_ _ | refine bl_drew ?_ | refine bl_alloc ?_ _ | refine bl_set ?_ (by first | (simp; done) | (simp; omega) | omega | (simp [World.setCell]; done) | (simp [World.setCell]; omega)) _ | refine bl_call ?_ (by assumption))⟩
set_option maxRecDepth 100000 in
set_option maxHeartbeats 1000000 in
theorem walk_small (A : Option Addr) (len cap : Nat) (l : List (Nat × Nat)) (w : World) (hlen : l.length = len) (h : len ≤ 1048576) (hr : SpanRow w w.heap.size (.slice A len cap) l) :
    Calls Try.prog 3 #[.slice A len cap] w fun en w' => en = .returned (.bool true) ∧ Below w.heap.size w w' := by
  have hz : (if len ≤ 1048576 then 1048576 - (len : Int) else -1) = 1048576 - (len : Int) := if_pos h
  have HZ := Lib.hid hz
  have hl : l.length ≤ 1048576 := by omega
  have HR := Lib.hid hr
  have hb0 : 0 ≤ 1048576 - (len : Int) := by omega
  obtain ⟨m, hm⟩ : ∃ m, agreeF l = m := ⟨_, rfl⟩
  have HM := Lib.hid hm
  clear hz hm hr hlen
  obtain ⟨⟨m0, m1⟩, mb⟩ := m
  go_enter Try.func3, Try.ntmps3
  go_wp2_with (first | (go_at_call 12; (with_reducible refine (szSpanS_any _ _ _ _ (by omega)).mono ?_); rw [HZ.out]; rintro en w9 ⟨rfl, hw9⟩; have hw9x := hw9.symm; clear hw9; subst hw9x) | (go_at_call 14; (with_reducible refine (toSpanS_any _ l _ hl ((HR.out.below (B := w.heap.size) HB5.out).more HB5.out.size)).mono ?_); rintro en w6 ⟨v6, rfl, hs6, hb6⟩; have HS6 := Lib.hid (And.intro hs6 (And.intro hb6 ((HS3.out.1.below (B := w3.heap.size) (bl_call HC5.out hb6)).more (bl_call HC5.out hb6).size))); clear hs6 hb6) | (go_at_call 14; (with_reducible refine (toSpanS_any _ l _ hl ((HR.out.below (B := w.heap.size) (bl_alloc HB2.out _)).more (by simp; have := HB2.out.size; omega))).mono ?_); rintro en w3 ⟨v3, rfl, hs3, hb3⟩; have HS3 := Lib.hid (And.intro hs3 hb3); clear hs3 hb3) | (go_at_call 14; (with_reducible refine (toSpanS_any _ l _ hl HR.out).mono ?_); rintro en w1 ⟨v1, rfl, hs1, hb1⟩; have HS1 := Lib.hid (And.intro hs1 hb1); clear hs1 hb1) | (go_at_call 13; (with_reducible refine (agreeS_any _ l _ hl HS1.out.1).mono ?_); rw [HM.out]; rintro en w2 ⟨rfl, hb2⟩; simp only [spanR]; have HB2 := Lib.hid (bl_call HS1.out.2 hb2); clear hb2) | (go_at_call 15; (with_reducible refine (agreeI_any _ l _ hl HS3.out.1).mono ?_); rw [HM.out]; rintro en w4 ⟨rfl, hb4⟩; simp only [spanR]; have HB4 := Lib.hid hb4; have hl3 : w2.heap.size < w3.heap.size := (by have := HS3.out.2.size; simp at this; omega); have hl4 : w2.heap.size < w4.heap.size := (by have := hb4.size; omega); have hn4 : ¬ w2.heap.size = w4.heap.size := (by omega); have R4 := ((Blk.new w2 26 #[.float .f32 m0, .float .f32 m1]).below HS3.out.2 (by simp)).below hb4 hl3; have r0 := R4.cell 0; have r1 := R4.cell 1; simp only [List.getElem?_toArray, List.getElem?_cons_zero, List.getElem?_cons_succ] at r0 r1; clear hb4) | (go_at_call 16; (with_reducible refine (eqSpan_same _ _ _ _ _ rfl rfl).mono ?_); rintro en w5 ⟨rfl, hb5⟩; have HB5 := Lib.hid (bl_call (bl_alloc (bl_call (bl_call (bl_alloc HB2.out _) HS3.out.2) HB4.out) _) hb5); have HC5 := Lib.hid (bl_call (bl_alloc HB4.out _) hb5); clear hb5) | (go_at_call 17; (with_reducible refine (eqSpanS_same _ _ l _ hl HS6.out.2.2 HS6.out.1).mono ?_); rintro en w7 ⟨rfl, hb7⟩))
  all_goals
    go_ret
    refine ⟨rfl, ?_⟩
    have hB := bl_call HB5.out HS6.out.2.1
    repeat (first | exact Below.refl _ _ | assumption | refine bl_drewN ?_ _ | refine bl_drew ?_ | refine bl_alloc ?_ _ | refine bl_set ?_ (by first | (simp; done) | (simp; omega) | omega | (simp [World.setCell]; done) | (simp [World.setCell]; omega)) _ | refine bl_call ?_ (by assumption))
theorem walk (A : Option Addr) (len cap : Nat) (l : List (Nat × Nat)) (w : World) (hlen : l.length = len) (hm : len ≤ maxLen) (hr : SpanRow w w.heap.size (.slice A len cap) l) :
    Calls Try.prog 3 #[.slice A len cap] w fun en w' => en = .returned (.bool true) ∧ Below w.heap.size w w' := by
  rcases Nat.lt_or_ge 1048576 len with h | h
  · exact walk_big A len cap w h hm
  · exact walk_small A len cap l w hlen h hr

section
variable {H : Type} {enc : TypeId × Value → H} {w : World} {base : Nat} {spare : Nat → Bool} {held : Bool}
theorem trod_float {t : TypeId} {k : FloatKind} {n : Nat} {v : Value} {y : DataW H × List MemPlace} (ht : Try.prog.underlying t = some (.float k)) (h : DataW.trod enc Try.prog w base spare held n t [v] = some y) : ∃ b, v = .float k b := by
  cases n with
  | zero => simp [DataW.trod] at h
  | succ n =>
    simp only [DataW.trod, ht] at h
    cases v <;> simp at h
    rename_i k' b
    obtain ⟨⟨rfl, _⟩, _⟩ := h
    exact ⟨b, rfl⟩
theorem add_none (b off n : Nat) : (⟨b, off, none⟩ : Addr).add n = ⟨b, off + n, none⟩ := by
  unfold Addr.add; split
  · rename_i h; subst h; rfl
  · rfl
set_option maxRecDepth 100000 in
theorem two_floats {n : Nat} {cs : List Value} {y : DataW H × List MemPlace} (h : DataW.trod enc Try.prog w base spare held n 72 cs = some y) : ∃ b0 b1, cs = [.float .f32 b0, .float .f32 b1] := by
  obtain ⟨y0, y1, m, _, hlen, h0, h1⟩ := trod_struct2 Try.underlying72 h
  have hC : Try.prog.cellsOf 72 = 2 := by kernel_rfl
  have hF : Try.prog.cellsOf 24 = 1 := by kernel_rfl
  rw [hC] at hlen
  match cs, hlen with
  | [c0, c1], _ =>
    simp [hF] at h0 h1
    obtain ⟨b0, rfl⟩ := trod_float Try.underlying24 h0
    obtain ⟨b1, rfl⟩ := trod_float Try.underlying24 h1
    exact ⟨b0, b1, rfl⟩
theorem exists_list {P : Nat → Nat × Nat → Prop} (n : Nat) (h : ∀ i, i < n → ∃ p, P i p) : ∃ l : List (Nat × Nat), l.length = n ∧ ∀ i p, l[i]? = some p → P i p := by
  induction n with
  | zero => exact ⟨[], rfl, fun i p hi => by simp at hi⟩
  | succ n ih =>
    obtain ⟨l, hl, hp⟩ := ih fun i hi => h i (by omega)
    obtain ⟨q, hq⟩ := h n (by omega)
    refine ⟨l ++ [q], by simp [hl], fun i p hi => ?_⟩
    rcases Nat.lt_or_ge i n with h1 | h1
    · rw [List.getElem?_append_left (by omega)] at hi
      exact hp i p hi
    · have hlt : i < (l ++ [q]).length := (List.getElem?_eq_some_iff.1 hi).1
      simp [hl] at hlt
      obtain rfl : i = n := by omega
      rw [List.getElem?_append_right (by omega), hl] at hi
      simp at hi
      rw [← hi]; exact hq
theorem open_spans {fuel : Nat} {a0 : Option Addr} {len cap : Nat} {x : DataW H × List MemPlace} (h : DataW.trod enc Try.prog w base spare held fuel 22 (Value.slice a0 len cap).cells.toList = some x) :
    ∃ l : List (Nat × Nat), l.length = len ∧ len ≤ maxLen ∧ SpanRow w w.heap.size (.slice a0 len cap) l := by
  rcases open_slice Try.underlying22 h with ⟨hcs, _⟩ | ⟨a, ln, cp, m, n, D, Pl, hcs, _, hl, hm, hmm, _, hi⟩
  · simp [Value.cells] at hcs
    obtain ⟨rfl, rfl, rfl⟩ := hcs
    exact ⟨[], rfl, Nat.zero_le _, .inl ⟨_, _, rfl, rfl⟩⟩
  · simp [Value.cells] at hcs
    obtain ⟨rfl, rfl, rfl⟩ := hcs
    have hC : Try.prog.cellsOf 72 = 2 := by kernel_rfl
    rw [hC] at hi
    have hcell : ∀ i, i < len → ∃ p : Nat × Nat, w.cell? (a.add (i * 2)) = some (.float .f32 p.1) ∧ w.cell? ((a.add (i * 2)).add 1) = some (.float .f32 p.2) := fun i hi' => by
      obtain ⟨cs, hc, ht⟩ := hi i (by rw [hmm]; split <;> omega)
      obtain ⟨b0, b1, rfl⟩ := two_floats ht
      obtain ⟨_, _, hat⟩ := World.cells?_some hc
      have c0 := hat 0 (by omega)
      have c1 := hat 1 (by omega)
      rw [Go.Deep.add_add, Nat.add_zero] at c0
      exact ⟨(b0, b1), c0, c1⟩
    obtain ⟨l, hll, hlp⟩ := exists_list len hcell
    refine ⟨l, hll, by omega, ?_⟩
    rcases Nat.eq_zero_or_pos len with h0 | h0
    · subst h0
      have : l = [] := List.eq_nil_of_length_eq_zero hll
      subst this
      exact .inl ⟨_, _, rfl, rfl⟩
    · obtain ⟨b, off, spot⟩ := a
      have hs : spot = none := by
        obtain ⟨p, hp, _⟩ := hcell 0 h0
        cases spot with
        | none => rfl
        | some s =>
          exfalso
          simp [World.cell?, Addr.add] at hp
          split at hp <;> simp at hp
      subst hs
      obtain ⟨p, hp, _⟩ := hcell 0 h0
      have hbl := World.block_lt_of_cell? w _ hp
      refine .inr ⟨b, off, cap, by rw [hll], by omega, ?_, by omega, fun i p hip => ?_⟩
      · rw [add_none] at hbl; exact hbl
      · obtain ⟨c0, c1⟩ := hlp i p hip
        rw [add_none] at c0 c1
        rw [add_none] at c1
        exact ⟨c0, c1⟩
end

set_option maxRecDepth 100000 in
theorem lifted (os : Os) (started : os.Started) (H : Type) (enc : TypeId × Value → H) :
    ReturnsInHanded {} Try.checked os 3 .any (Rows.fnExactAgreeSpec.pre6 enc Try.prog Try.f3 Rows.fnExactAgreeRow.domain false) (Rows.fnExactAgreeSpec.post enc Try.prog Try.f3 false true false false) := by
  refine returnsInHanded_of_change (C := Try.checked) own started (by kernel_rfl) Try.func3
    (ChangeSpec.witness6 (enc := enc) (C := Try.checked) false ⟨#[], #[.slice none 0 0], []⟩ 8 (by kernel_rfl) (by kernel_rfl) (by kernel_rfl) (by kernel_rfl)) ?_
  intro W base args ds gs before hval0 hW hcnd _
  have hval : ∀ (j : Nat) t v, Try.f3.params[j]? = some t → args[j]? = some v → Value.okWide Try.prog W .any base t v := hval0
  have hW' := hW
  obtain ⟨p, q, hA0, hV, rfl, hfz, hnd⟩ := hW
  have hA : DataW.TrodAll enc Try.prog W 0 (fun _ => true) true Try.f3.params.toList args.toList ds p := hA0
  rw [Try.params3] at hA hval
  obtain ⟨v0, vs0, d0, ds0, p0, q0, hargs, rfl, rfl, h0, r0⟩ := trodAll_cons hA
  obtain ⟨rfl, rfl, rfl⟩ := trodAll_nil r0
  obtain rfl : args = #[v0] := by cases args; simp_all
  obtain ⟨rfl, rfl⟩ := trodVars_none hV
  obtain ⟨a0, len0, cap0, rfl⟩ := okWide_slice Try.underlying22 (hval 0 22 v0 rfl rfl)
  have k0 := h0
  have lt0 : ∀ x ∈ p0, x.block < W.heap.size := by obtain ⟨m, hm⟩ := k0; exact DataW.trod_lt m _ _ _ hm
  obtain ⟨l, hl, hm, hr⟩ : ∃ l : List (Nat × Nat), l.length = len0 ∧ len0 ≤ maxLen ∧ SpanRow W W.heap.size (.slice a0 len0 cap0) l := by
    obtain ⟨fuel, hf⟩ := h0
    exact open_spans hf
  clear hA0 hval0
  refine (walk a0 len0 cap0 l W hl hm hr).mono fun e W' ⟨he, bel⟩ => ?_
  subst he
  exact ⟨_, rfl, _, _, _, [], _, [], hW', trodAll_mk1 (shut_bool Try.underlying4 _), (trodAll_cons_mk (Below.trod laidOut (by kernel_rfl) (of_decide_eq_true (by kernel_rfl)) k0 bel lt0) trodAll_mk0), rfl, bel.frame _, fun h => by cases h⟩

theorem proved : Rows.FnExactAgreeSaid :=
  OpenClaim.holds_of_wide 3 Try.f3 rfl rfl rfl rfl rfl rfl rfl ⟨rfl, rfl, rfl, rfl, rfl⟩ rfl rfl rfl rfl rfl (by kernel_rfl) Try.func3 (by kernel_rfl)
    (of_decide_eq_true (by kernel_rfl)) (by unfold Func.isWrapper; first | (rw [if_pos (by decide +kernel)]; kernel_rfl) | (rw [if_neg (by decide +kernel)]; exact ⟨rfl, rfl⟩))
    (fun os started H enc _ => lifted os started H enc)
#print axioms proved
end Go.Proofs.Ytldcciipicnooaa.fnExactAgree
