/- For every input laws.FnMeetHull returns true: a number lies in what two spans have in common exactly if it lies in both; the hull has all that lies in one of them. No condition. -/
import Derived.Test.YtldcciipicnooaaHull
import Derived.Test.YtldcciipicnooaaSign
import Derived.Deep.RegionWith
import Derived.ProofKit
import Derived.OpenShut
import Derived.ShutString
import Derived.ChangeOld
import Derived.Lib.SmallJoins
namespace Go.Proofs.Ytldcciipicnooaa.fnMeetHull
open Go.ChangeShapes Go.WideShapes Go.ChangeAt Go.RowKit Go.Joins
open Go.ChangeMaps (open_string shut_string)
attribute [local go_sem] run_neg_float run_store_float run_store_complex

theorem own : ownKnob Try.prog.godebug = none := by kernel_rfl
theorem laidOut : laidOutB Try.prog = true := by kernel_rfl

set_option maxRecDepth 100000 in
set_option maxHeartbeats 1000000 in
theorem walk_big (A : Option Addr) (len cap : Nat) (w : World) (h : 1048576 < len) :
    Calls Try.prog 5 #[.slice A len cap] w fun en w' => en = .returned (.bool true) ∧ Below w.heap.size w w' := by
  have h' : (1048576 : Int) < (len : Int) := by omega
  go_enter Try.func5, Try.ntmps5
  go_wp2_with (go_at_call 18; (with_reducible refine (big_any _ _ _ _).mono ?_); rintro en w9 ⟨rfl, hw9⟩; have hw9x := hw9.symm; clear hw9; subst hw9x)
  go_ret
  exact ⟨rfl, by repeat (first | exact Below.refl _ _ | assumption | refine bl_drewN ?_ _ | refine bl_drew ?_ | refine bl_alloc ?_ _ | refine bl_set ?_ (by first | (simp; done) | (simp; omega) | omega | (simp [World.setCell]; done) | (simp [World.setCell]; omega)) _ | refine bl_call ?_ (by assumption))⟩




/-- The memory that the rounds read. -/
structure MhB (g1 g2 g3 : Nat) (a0 a1 b0 b1 m0 m1 h0 h1 : Nat) (vs : List Nat) (wr : World) : Prop where
  a : Blk wr g1 26 #[.float .f32 a0, .float .f32 a1]
  b : Blk wr (g1 + 1) 26 #[.float .f32 b0, .float .f32 b1]
  m : Blk wr g2 26 #[.float .f32 m0, .float .f32 m1]
  h : Blk wr g3 26 #[.float .f32 h0, .float .f32 h1]
  l : Blk wr (g3 + 1) 39 (vs.map (Value.float .f64)).toArray
section
variable {g1 g2 g3 a0 a1 b0 b1 m0 m1 h0 h1 : Nat} {vs : List Nat} {wr w' : World}
theorem MhB.below (H : MhB g1 g2 g3 a0 a1 b0 b1 m0 m1 h0 h1 vs wr) (hb : Below wr.heap.size wr w') : MhB g1 g2 g3 a0 a1 b0 b1 m0 m1 h0 h1 vs w' :=
  ⟨H.a.below hb H.a.lt, H.b.below hb H.b.lt, H.m.below hb H.m.lt, H.h.below hb H.h.lt, H.l.below hb H.l.lt⟩
theorem MhB.cells (H : MhB g1 g2 g3 a0 a1 b0 b1 m0 m1 h0 h1 vs wr) :
    wr.cell? ⟨g1, 0, none⟩ = some (.float .f32 a0) ∧ wr.cell? ⟨g1, 1, none⟩ = some (.float .f32 a1) ∧ wr.cell? ⟨g1 + 1, 0, none⟩ = some (.float .f32 b0) ∧ wr.cell? ⟨g1 + 1, 1, none⟩ = some (.float .f32 b1) ∧
    wr.cell? ⟨g2, 0, none⟩ = some (.float .f32 m0) ∧ wr.cell? ⟨g2, 1, none⟩ = some (.float .f32 m1) ∧ wr.cell? ⟨g3, 0, none⟩ = some (.float .f32 h0) ∧ wr.cell? ⟨g3, 1, none⟩ = some (.float .f32 h1) :=
  ⟨H.a.cell 0, H.a.cell 1, H.b.cell 0, H.b.cell 1, H.m.cell 0, H.m.cell 1, H.h.cell 0, H.h.cell 1⟩
theorem MhB.val (H : MhB g1 g2 g3 a0 a1 b0 b1 m0 m1 h0 h1 vs wr) (k : Nat) (hk : k < 5) (hv : vs.length = 5) : ∃ v, wr.cell? ⟨g3 + 1, k, none⟩ = some (.float .f64 v) := by
  refine ⟨vs[k], ?_⟩
  rw [H.l.cell k]
  simp [show k < vs.length by omega]
end
def MhRel (w : World) (g1 g2 g3 : Nat) (a0 a1 b0 b1 m0 m1 h0 h1 : Nat) (vs : List Nat) (i : Value) (wr : World) : Prop :=
  ∃ k : Nat, k ≤ 5 ∧ i = .int .i64 (k : Int) ∧ Below w.heap.size w wr ∧ MhB g1 g2 g3 a0 a1 b0 b1 m0 m1 h0 h1 vs wr
theorem row3 (w : World) (a b c d e f : Nat) : SpanRow (w.alloc (.cells #[.float .f32 a, .float .f32 b, .float .f32 c, .float .f32 d, .float .f32 e, .float .f32 f] 26)) (w.alloc (.cells #[.float .f32 a, .float .f32 b, .float .f32 c, .float .f32 d, .float .f32 e, .float .f32 f] 26)).heap.size (.slice (some ⟨w.heap.size, 0, none⟩) 3 3) [(a, b), (c, d), (e, f)] := by
  refine .inr ⟨w.heap.size, 0, 3, rfl, by simp, by simp, by simp, fun i p hi => ?_⟩
  have B := Blk.new w 26 #[.float .f32 a, .float .f32 b, .float .f32 c, .float .f32 d, .float .f32 e, .float .f32 f]
  rw [B.cell, B.cell]
  match i, hi with
  | 0, hi => simp at hi; subst hi; exact ⟨rfl, rfl⟩
  | 1, hi => simp at hi; subst hi; exact ⟨rfl, rfl⟩
  | 2, hi => simp at hi; subst hi; exact ⟨rfl, rfl⟩
  | n + 3, hi => simp at hi
theorem meet_num {a0 a1 b0 b1 m0 m1 : Nat} (h : meetF a0 a1 b0 b1 = ((m0, m1), true)) : (FloatKind.f32.format.order m0 m0 == some .eq) = true ∧ (FloatKind.f32.format.order m1 m1 == some .eq) = true := by
  unfold meetF at h
  generalize (if gt32 b0 a0 then b0 else a0) = u at *
  generalize (if lt32 b1 a1 then b1 else a1) = v at *
  split at h
  · rename_i hc
    simp only [Bool.and_eq_true] at hc
    obtain ⟨n1, n2⟩ := spOk_num hc.2
    simp only [Prod.mk.injEq] at h
    obtain ⟨⟨rfl, rfl⟩, _⟩ := h
    rw [order_self n1, order_self n2]
    exact ⟨rfl, rfl⟩
  · simp at h

set_option maxRecDepth 100000 in
set_option maxHeartbeats 4000000 in
theorem walk_small (A : Option Addr) (len cap : Nat) (w : World) (h : len ≤ 1048576) (hlen : len ≤ maxLen) (hrow : RowOk w.heap.size w A len) :
    Calls Try.prog 5 #[.slice A len cap] w fun en w' => en = .returned (.bool true) ∧ Below w.heap.size w w' := by
  have h' : ¬ (1048576 : Int) < (len : Int) := by omega
  go_enter Try.func5, Try.ntmps5
  go_wp2_with (first | (go_at_call 18; (with_reducible refine (big_any _ _ _ _).mono ?_); rintro en w9 ⟨rfl, hw9⟩; have hw9x := hw9.symm; clear hw9; subst hw9x) | (go_at_call 25; (with_reducible refine (drawSpans_any _ _ _ _ hlen (hrow.more (by repeat (first | exact Below.refl _ _ | assumption | refine bl_drewN ?_ _ | refine bl_drew ?_ | refine bl_alloc ?_ _ | refine bl_set ?_ (by first | (simp; done) | (simp; omega) | omega | (simp [World.setCell]; done) | (simp [World.setCell]; omega)) _ | refine bl_call ?_ (by assumption))) (by omega))).mono ?_); rintro en w1 ⟨a0, a1, b0, b1, x, y, rfl, hga, hgb, hb1⟩; have HGA := Lib.hid hga; have HGB := Lib.hid hgb; have HB1 := Lib.hid hb1; clear hga hgb hb1))
  obtain ⟨m, hm⟩ : ∃ m, meetF a0 a1 b0 b1 = m := ⟨_, rfl⟩
  obtain ⟨hl, hhl⟩ : ∃ u, (if lt32 b0 a0 then b0 else a0) = u := ⟨_, rfl⟩
  obtain ⟨hh, hhh⟩ : ∃ u, (if gt32 b1 a1 then b1 else a1) = u := ⟨_, rfl⟩
  have F1 : Hid (∀ v, (holdsF a0 a1 v && holdsF b0 b1 v) = (m.2 && holdsF m.1.1 m.1.2 v)) := Lib.hid (fun v => by rw [← hm]; exact meet_holds HGA.out HGB.out v)
  have F2 : Hid (∀ v, (holdsF a0 a1 v || holdsF b0 b1 v) = true → holdsF hl hh v = true) := Lib.hid (fun v => by rw [← hhl, ← hhh]; exact hull_holds HGA.out HGB.out v)
  have F3 : Hid (agreeF [(a0, a1), (b0, b1), (a0, a1)] = m) := Lib.hid (by rw [← hm]; exact agree_three HGA.out HGB.out)
  have HM := Lib.hid hm
  have HL := Lib.hid hhl
  have HH := Lib.hid hhh
  have OA := Lib.hid (spg_ok HGA.out)
  have OB := Lib.hid (spg_ok HGB.out)
  clear hm hhl hhh
  obtain ⟨⟨m0, m1⟩, ok⟩ := m
  have RA0 : Blk ((w1.alloc (.cells #[.float .f32 a0, .float .f32 a1] 26)).alloc (.cells #[.float .f32 b0, .float .f32 b1] 26)) w1.heap.size 26 #[.float .f32 a0, .float .f32 a1] := (Blk.new w1 _ _).alloc _
  have RB0 : Blk ((w1.alloc (.cells #[.float .f32 a0, .float .f32 a1] 26)).alloc (.cells #[.float .f32 b0, .float .f32 b1] 26)) (w1.heap.size + 1) 26 #[.float .f32 b0, .float .f32 b1] := Blk.new_at _ _ _ (by simp)
  go_wp2_with (first | (go_at_call 26; (with_reducible refine (meet_any _ _ _ _ _).mono ?_); rintro en w2 ⟨he, hb2⟩; rw [HM.out] at he; subst he; simp only [spanR]; have HB2 := Lib.hid hb2; clear hb2; have hs2 := HB2.out.size; (try simp at hs2); have RA2 := RA0.below HB2.out (by simp; omega); have RB2 := RB0.below HB2.out (by simp); have hn2 : ¬ w1.heap.size = w2.heap.size := (by omega); have hn3 : ¬ w1.heap.size + 1 = w2.heap.size := (by omega); have hl2 : w1.heap.size < w2.heap.size := (by omega); have hl3 : w1.heap.size + 1 < w2.heap.size := (by omega); have u0 := RA2.cell 0; have u1 := RA2.cell 1; have v0 := RB2.cell 0; have v1 := RB2.cell 1; simp only [List.getElem?_toArray, List.getElem?_cons_zero, List.getElem?_cons_succ] at u0 u1 v0 v1) | (go_at_call 27; (with_reducible refine (hull_any _ _ _ _ _ OA.out OB.out).mono ?_); rintro en w3 ⟨he, hb3⟩; rw [HL.out, HH.out] at he; subst he; have HB3 := Lib.hid hb3; clear hb3; have hs3 := HB3.out.size; (try simp at hs3); have RA3 := (RA2.alloc (.cells #[.float .f32 m0, .float .f32 m1] 26)).below HB3.out (by simp; omega); have RB3 := (RB2.alloc (.cells #[.float .f32 m0, .float .f32 m1] 26)).below HB3.out (by simp; omega); have RM3 := (Blk.new w2 26 #[.float .f32 m0, .float .f32 m1]).below HB3.out (by simp); have hn4 : ¬ w1.heap.size = w3.heap.size := (by omega); have hn5 : ¬ w1.heap.size + 1 = w3.heap.size := (by omega); have hl4 : w1.heap.size < w3.heap.size := (by omega); have hl5 : w1.heap.size + 1 < w3.heap.size := (by omega); have u0 := RA3.cell 0; have u1 := RA3.cell 1; have v0 := RB3.cell 0; have v1 := RB3.cell 1; simp only [List.getElem?_toArray, List.getElem?_cons_zero, List.getElem?_cons_succ] at u0 u1 v0 v1) | (refine wpl_widen 39 Try.underlying24 Try.underlying39 rfl rfl rfl rfl ?_; intro r39 n39 hr39) | (refine wpl_widen 41 Try.underlying24 Try.underlying39 rfl rfl rfl rfl ?_; intro r41 n41 hr41) | (refine wpl_widen 44 Try.underlying24 Try.underlying39 rfl rfl rfl rfl ?_; intro r44 n44 hr44) | (refine wpl_widen 47 Try.underlying24 Try.underlying39 rfl rfl rfl rfl ?_; intro r47 n47 hr47))
  have HMB0 : Hid (MhB w1.heap.size w2.heap.size w3.heap.size a0 a1 b0 b1 m0 m1 hl hh [r39, r41, r44, r47, 0] _) := Lib.hid (MhB.mk (((RA3.alloc (.cells #[.float .f32 hl, .float .f32 hh] 26)).drewN (n39 + n41 + n44 + n47)).alloc (.cells #[.float .f64 r39, .float .f64 r41, .float .f64 r44, .float .f64 r47, .float .f64 0] 39)) (((RB3.alloc _).drewN _).alloc _) (((RM3.alloc _).drewN _).alloc _) (((Blk.new w3 _ _).drewN _).alloc _) (Blk.new_at _ _ _ (by simp)))
  have HBW0 : Hid (Below w.heap.size w w3) := Lib.hid (by have h1 := HB1.out; have h2 := HB2.out; have h3 := HB3.out; repeat (first | exact Below.refl _ _ | assumption | refine bl_drewN ?_ _ | refine bl_drew ?_ | refine bl_alloc ?_ _ | refine bl_set ?_ (by first | (simp; done) | (simp; omega) | omega | (simp [World.setCell]; done) | (simp [World.setCell]; omega)) _ | refine bl_call ?_ (by assumption)))
  cases ok
  · go_loopw [12] (fun i wr => MhRel w w1.heap.size w2.heap.size w3.heap.size a0 a1 b0 b1 m0 m1 hl hh [r39, r41, r44, r47, 0] i wr) (fun i _ => 5 - (intOf i).toNat)
    case atStart => exact ⟨0, by omega, rfl, by have h9 := HBW0.out; repeat (first | exact Below.refl _ _ | assumption | refine bl_drewN ?_ _ | refine bl_drew ?_ | refine bl_alloc ?_ _ | refine bl_set ?_ (by first | (simp; done) | (simp; omega) | omega | (simp [World.setCell]; done) | (simp [World.setCell]; omega)) _ | refine bl_call ?_ (by assumption)), HMB0.out⟩
    case round =>
      obtain ⟨k, hk, rfl, hBW, hMB⟩ := hrel
      have HBW := Lib.hid hBW
      have HMB := Lib.hid hMB
      clear hBW hMB HMB0 HBW0
      by_cases hlt : k < 5
      · obtain ⟨v, hv⟩ := HMB.out.val k hlt rfl
        have f1 := F1.out v
        have f2 := F2.out v
        obtain ⟨p, hp⟩ : ∃ p, holdsF a0 a1 v = p := ⟨_, rfl⟩
        obtain ⟨q, hq⟩ : ∃ p, holdsF b0 b1 v = p := ⟨_, rfl⟩
        obtain ⟨r, hr⟩ : ∃ p, holdsF m0 m1 v = p := ⟨_, rfl⟩
        obtain ⟨u, hu⟩ : ∃ p, holdsF hl hh v = p := ⟨_, rfl⟩
        rw [hp, hq] at f1 f2
        rw [hu] at f2
        simp only [hr] at f1
        have Hp := Lib.hid hp
        have Hq := Lib.hid hq
        have Hr := Lib.hid hr
        have Hu := Lib.hid hu
        clear hp hq hr hu
        obtain ⟨u0, u1, v0, v1, p0, p1, q0, q1⟩ := HMB.out.cells
        have h5 : (k : Int) < 5 := by omega
        cases p <;> cases q <;> cases u
        all_goals first
          | (exfalso; simp at f1; done)
          | (exfalso; have f3 := f2 rfl; simp at f3; done)
          | (clear f1 f2
             go_wp2_with (go_at_call 28; (with_reducible refine (holds_any _ _ _ _).mono ?_); rintro en wC ⟨he, hbC⟩; (first | rw [Hp.out] at he | rw [Hq.out] at he | rw [Hr.out] at he | rw [Hu.out] at he); subst he; have HBC := Lib.hid (bl_call HBW.out hbC); have HMC := Lib.hid (HMB.out.below hbC); clear hbC HBW HMB; have HBW := HBC; have HMB := HMC; obtain ⟨u0, u1, v0, v1, p0, p1, q0, q1⟩ := HMB.out.cells)
             exact ⟨⟨k + 1, by omega, congrArg (Value.int .i64) (by omega), HBW.out, HMB.out⟩, by show 5 - ((k : Int) + 1).toNat < 5 - (k : Int).toNat; omega⟩)
      · have h5 : ¬ (k : Int) < 5 := by omega
        obtain ⟨u0, u1, v0, v1, p0, p1, q0, q1⟩ := HMB.out.cells
        go_wp2_with (go_at_call 15; (with_reducible refine (agreeI_any _ [(a0, a1), (b0, b1), (a0, a1)] _ (by simp) (row3 _ _ _ _ _ _ _)).mono ?_); rintro en wD ⟨he, hbD⟩; rw [F3.out] at he; subst he; simp only [spanR])
        go_ret
        exact ⟨rfl, by have h9 := HBW.out; repeat (first | exact Below.refl _ _ | assumption | refine bl_drewN ?_ _ | refine bl_drew ?_ | refine bl_alloc ?_ _ | refine bl_set ?_ (by first | (simp; done) | (simp; omega) | omega | (simp [World.setCell]; done) | (simp [World.setCell]; omega)) _ | refine bl_call ?_ (by assumption))⟩
  · obtain ⟨g1, g2⟩ := meet_num HM.out
    have G1 := Lib.hid g1
    have G2 := Lib.hid g2
    clear g1 g2
    go_loopw [12] (fun i wr => MhRel w w1.heap.size w2.heap.size w3.heap.size a0 a1 b0 b1 m0 m1 hl hh [r39, r41, r44, r47, 0] i wr) (fun i _ => 5 - (intOf i).toNat)
    case atStart => exact ⟨0, by omega, rfl, by have h9 := HBW0.out; repeat (first | exact Below.refl _ _ | assumption | refine bl_drewN ?_ _ | refine bl_drew ?_ | refine bl_alloc ?_ _ | refine bl_set ?_ (by first | (simp; done) | (simp; omega) | omega | (simp [World.setCell]; done) | (simp [World.setCell]; omega)) _ | refine bl_call ?_ (by assumption)), HMB0.out⟩
    case round =>
      obtain ⟨k, hk, rfl, hBW, hMB⟩ := hrel
      have HBW := Lib.hid hBW
      have HMB := Lib.hid hMB
      clear hBW hMB HMB0 HBW0
      by_cases hlt : k < 5
      · obtain ⟨v, hv⟩ := HMB.out.val k hlt rfl
        have f1 := F1.out v
        have f2 := F2.out v
        obtain ⟨p, hp⟩ : ∃ p, holdsF a0 a1 v = p := ⟨_, rfl⟩
        obtain ⟨q, hq⟩ : ∃ p, holdsF b0 b1 v = p := ⟨_, rfl⟩
        obtain ⟨r, hr⟩ : ∃ p, holdsF m0 m1 v = p := ⟨_, rfl⟩
        obtain ⟨u, hu⟩ : ∃ p, holdsF hl hh v = p := ⟨_, rfl⟩
        rw [hp, hq] at f1 f2
        rw [hu] at f2
        simp only [hr] at f1
        have Hp := Lib.hid hp
        have Hq := Lib.hid hq
        have Hr := Lib.hid hr
        have Hu := Lib.hid hu
        clear hp hq hr hu
        obtain ⟨u0, u1, v0, v1, p0, p1, q0, q1⟩ := HMB.out.cells
        have h5 : (k : Int) < 5 := by omega
        cases p <;> cases q <;> cases r <;> cases u
        all_goals first
          | (exfalso; simp at f1; done)
          | (exfalso; have f3 := f2 rfl; simp at f3; done)
          | (clear f1 f2
             go_wp2_with (go_at_call 28; (with_reducible refine (holds_any _ _ _ _).mono ?_); rintro en wC ⟨he, hbC⟩; (first | rw [Hp.out] at he | rw [Hq.out] at he | rw [Hr.out] at he | rw [Hu.out] at he); subst he; have HBC := Lib.hid (bl_call HBW.out hbC); have HMC := Lib.hid (HMB.out.below hbC); clear hbC HBW HMB; have HBW := HBC; have HMB := HMC; obtain ⟨u0, u1, v0, v1, p0, p1, q0, q1⟩ := HMB.out.cells)
             exact ⟨⟨k + 1, by omega, congrArg (Value.int .i64) (by omega), HBW.out, HMB.out⟩, by show 5 - ((k : Int) + 1).toNat < 5 - (k : Int).toNat; omega⟩)
      · have h5 : ¬ (k : Int) < 5 := by omega
        obtain ⟨u0, u1, v0, v1, p0, p1, q0, q1⟩ := HMB.out.cells
        have hm2 := HMB.out.m.lt
        have g1 := G1.out
        have g2 := G2.out
        go_wp2_with (go_at_call 15; (with_reducible refine (agreeI_any _ [(a0, a1), (b0, b1), (a0, a1)] _ (by simp) (row3 _ _ _ _ _ _ _)).mono ?_); rintro en wD ⟨he, hbD⟩; rw [F3.out] at he; subst he; simp only [spanR]; have hbX := bl_call (bl_alloc (Below.refl _ _) _) hbD; have hsX := hbX.size; have HMD := Lib.hid (HMB.out.below hbX); clear hbX; obtain ⟨_, _, _, _, p2, p3, _, _⟩ := HMD.out.cells; have hlD : w2.heap.size < wD.heap.size := (by omega); have hnD : ¬ w2.heap.size = wD.heap.size := (by omega))
        go_ret
        exact ⟨rfl, by have h9 := HBW.out; repeat (first | exact Below.refl _ _ | assumption | refine bl_drewN ?_ _ | refine bl_drew ?_ | refine bl_alloc ?_ _ | refine bl_set ?_ (by first | (simp; done) | (simp; omega) | omega | (simp [World.setCell]; done) | (simp [World.setCell]; omega)) _ | refine bl_call ?_ (by assumption))⟩
theorem walk (A : Option Addr) (len cap : Nat) (w : World) (hlen : len ≤ maxLen) (hrow : RowOk w.heap.size w A len) :
    Calls Try.prog 5 #[.slice A len cap] w fun en w' => en = .returned (.bool true) ∧ Below w.heap.size w w' := by
  rcases Nat.lt_or_ge 1048576 len with h | h
  · exact walk_big A len cap w h
  · exact walk_small A len cap w h hlen hrow

set_option maxRecDepth 100000 in
theorem lifted (os : Os) (started : os.Started) (H : Type) (enc : TypeId × Value → H) :
    ReturnsInHanded {} Try.checked os 5 .any (Rows.fnMeetHullSpec.pre6 enc Try.prog Try.f5 Rows.fnMeetHullRow.domain false) (Rows.fnMeetHullSpec.post enc Try.prog Try.f5 false true false false) := by
  refine returnsInHanded_of_change (C := Try.checked) own started (by kernel_rfl) Try.func5
    (ChangeSpec.witness6 (enc := enc) (C := Try.checked) false ⟨#[], #[.slice none 0 0], []⟩ 8 (by kernel_rfl) (by kernel_rfl) (by kernel_rfl) (by kernel_rfl)) ?_
  intro W base args ds gs before hval0 hW hcnd _
  have hval : ∀ (j : Nat) t v, Try.f5.params[j]? = some t → args[j]? = some v → Value.okWide Try.prog W .any base t v := hval0
  have hW' := hW
  obtain ⟨p, q, hA0, hV, rfl, hfz, hnd⟩ := hW
  have hA : DataW.TrodAll enc Try.prog W 0 (fun _ => true) true Try.f5.params.toList args.toList ds p := hA0
  rw [Try.params5] at hA hval
  obtain ⟨v0, vs0, d0, ds0, p0, q0, hargs, rfl, rfl, h0, r0⟩ := trodAll_cons hA
  obtain ⟨rfl, rfl, rfl⟩ := trodAll_nil r0
  obtain rfl : args = #[v0] := by cases args; simp_all
  obtain ⟨rfl, rfl⟩ := trodVars_none hV
  obtain ⟨a0, len0, cap0, rfl⟩ := okWide_slice Try.underlying34 (hval 0 34 v0 rfl rfl)
  have k0 := h0
  have lt0 : ∀ x ∈ p0, x.block < W.heap.size := by obtain ⟨m, hm⟩ := k0; exact DataW.trod_lt m _ _ _ hm
  obtain ⟨hl, hr⟩ : len0 ≤ maxLen ∧ RowOk W.heap.size W a0 len0 := by
    obtain ⟨fuel, hf⟩ := h0
    rcases open_ints Try.underlying34 Try.underlying5 (by kernel_rfl) hf with ⟨hcs, _⟩ | ⟨x, l, c, zs, hcs, _, hl, hm, hz, _, hcell, hwz⟩
    · simp [Value.cells] at hcs
      obtain ⟨rfl, rfl, rfl⟩ := hcs
      exact row_of (zs := []) (.inl ⟨rfl, rfl, rfl, rfl⟩)
    · simp [Value.cells] at hcs
      obtain ⟨rfl, rfl, rfl⟩ := hcs
      exact row_of (.inr ⟨_, rfl, hl, hm, by simpa using hz, hcell, hwz⟩)
  clear hA0 hval0
  refine (walk a0 len0 cap0 W hl hr).mono fun e W' ⟨he, bel⟩ => ?_
  subst he
  exact ⟨_, rfl, _, _, _, [], _, [], hW', trodAll_mk1 (shut_bool Try.underlying4 _), (trodAll_cons_mk (Below.trod laidOut (by kernel_rfl) (of_decide_eq_true (by kernel_rfl)) k0 bel lt0) trodAll_mk0), rfl, bel.frame _, fun h => by cases h⟩

theorem proved : Rows.FnMeetHullSaid :=
  OpenClaim.holds_of_wide 5 Try.f5 rfl rfl rfl rfl rfl rfl rfl ⟨rfl, rfl, rfl, rfl, rfl⟩ rfl rfl rfl rfl rfl (by kernel_rfl) Try.func5 (by kernel_rfl)
    (of_decide_eq_true (by kernel_rfl)) (by unfold Func.isWrapper; first | (rw [if_pos (by decide +kernel)]; kernel_rfl) | (rw [if_neg (by decide +kernel)]; exact ⟨rfl, rfl⟩))
    (fun os started H enc _ => lifted os started H enc)
#print axioms proved
end Go.Proofs.Ytldcciipicnooaa.fnMeetHull
