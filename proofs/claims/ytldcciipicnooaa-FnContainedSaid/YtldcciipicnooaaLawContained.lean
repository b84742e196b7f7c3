/- For every input laws.FnContained returns true: the sum, the product and the negative of numbers of spans lie in the sum, the product and the negative of the spans. No condition. -/
import Derived.Test.YtldcciipicnooaaContM
import Derived.Test.YtldcciipicnooaaSign
import Derived.Deep.RegionWith
import Derived.Deep.RegionHeld3
import Derived.ProofKit
import Derived.OpenShut
import Derived.ShutString
import Derived.ChangeOld
import Derived.Lib.SmallJoins
namespace Go.Proofs.Ytldcciipicnooaa.fnContained
open Go.ChangeShapes Go.WideShapes Go.ChangeAt Go.RowKit Go.Joins
open Go.ChangeMaps (open_string shut_string)
attribute [local go_sem] run_neg_float run_store_float run_store_complex

theorem own : ownKnob Try.prog.godebug = none := by kernel_rfl
theorem laidOut : laidOutB Try.prog = true := by kernel_rfl

set_option maxRecDepth 100000 in
set_option maxHeartbeats 1000000 in
theorem walk_big (A : Option Addr) (len cap : Nat) (w : World) (h : 1048576 < len) :
    Calls Try.prog 6 #[.slice A len cap] w fun en w' => en = .returned (.bool true) ∧ Below w.heap.size w w' := by
  have h' : (1048576 : Int) < (len : Int) := by omega
  go_enter Try.func6, Try.ntmps6
  go_wp2_with (go_at_call 18; (with_reducible refine (big_any _ _ _ _).mono ?_); rintro en w9 ⟨rfl, hw9⟩; have hw9x := hw9.symm; clear hw9; subst hw9x)
  go_ret
  exact ⟨rfl, by repeat (first | exact Below.refl _ _ | assumption | refine bl_drewN ?_ _ | refine bl_drew ?_ | refine bl_alloc ?_ _ | refine bl_set ?_ (by first | (simp; done) | (simp; omega) | omega | (simp [World.setCell]; done) | (simp [World.setCell]; omega)) _ | refine bl_call ?_ (by assumption))⟩





/-- The memory that the checks read. -/
structure CtB (g1 g2 g3 g4 : Nat) (a0 a1 b0 b1 s0 s1 p0 p1 n0 n1 : Nat) (wr : World) : Prop where
  a : Blk wr g1 26 #[.float .f32 a0, .float .f32 a1]
  b : Blk wr (g1 + 1) 26 #[.float .f32 b0, .float .f32 b1]
  s : Blk wr g2 26 #[.float .f32 s0, .float .f32 s1]
  p : Blk wr g3 26 #[.float .f32 p0, .float .f32 p1]
  n : Blk wr g4 26 #[.float .f32 n0, .float .f32 n1]
section
variable {g1 g2 g3 g4 a0 a1 b0 b1 s0 s1 p0 p1 n0 n1 : Nat} {wr w' : World}
theorem CtB.below (H : CtB g1 g2 g3 g4 a0 a1 b0 b1 s0 s1 p0 p1 n0 n1 wr) (hb : Below wr.heap.size wr w') : CtB g1 g2 g3 g4 a0 a1 b0 b1 s0 s1 p0 p1 n0 n1 w' :=
  ⟨H.a.below hb H.a.lt, H.b.below hb H.b.lt, H.s.below hb H.s.lt, H.p.below hb H.p.lt, H.n.below hb H.n.lt⟩
theorem CtB.cells (H : CtB g1 g2 g3 g4 a0 a1 b0 b1 s0 s1 p0 p1 n0 n1 wr) :
    wr.cell? ⟨g1, 0, none⟩ = some (.float .f32 a0) ∧ wr.cell? ⟨g1, 1, none⟩ = some (.float .f32 a1) ∧ wr.cell? ⟨g1 + 1, 0, none⟩ = some (.float .f32 b0) ∧ wr.cell? ⟨g1 + 1, 1, none⟩ = some (.float .f32 b1) ∧
    wr.cell? ⟨g2, 0, none⟩ = some (.float .f32 s0) ∧ wr.cell? ⟨g2, 1, none⟩ = some (.float .f32 s1) ∧ wr.cell? ⟨g3, 0, none⟩ = some (.float .f32 p0) ∧ wr.cell? ⟨g3, 1, none⟩ = some (.float .f32 p1) ∧ wr.cell? ⟨g4, 0, none⟩ = some (.float .f32 n0) ∧ wr.cell? ⟨g4, 1, none⟩ = some (.float .f32 n1) :=
  ⟨H.a.cell 0, H.a.cell 1, H.b.cell 0, H.b.cell 1, H.s.cell 0, H.s.cell 1, H.p.cell 0, H.p.cell 1, H.n.cell 0, H.n.cell 1⟩
end
theorem ct_keep {g1 g2 g3 g4 a0 a1 b0 b1 s0 s1 p0 p1 n0 n1 : Nat} {wr : World} (H : CtB g1 g2 g3 g4 a0 a1 b0 b1 s0 s1 p0 p1 n0 n1 wr) : wr.cell? ⟨g1, 0, none⟩ = some (.float .f32 a0) ∧ wr.cell? ⟨g1, 1, none⟩ = some (.float .f32 a1) ∧ wr.cell? ⟨g4, 0, none⟩ = some (.float .f32 n0) ∧ wr.cell? ⟨g4, 1, none⟩ = some (.float .f32 n1) := ⟨H.a.cell 0, H.a.cell 1, H.n.cell 0, H.n.cell 1⟩
theorem rounds_eq {v : Rat} {r t : Nat} (h : Rounds v r) (h' : Rounds v t) : (FloatKind.f64.format.order r t != some .eq) = false := by
  have k1 := h.mono h' Rat.le_refl
  have k2 := h'.mono h Rat.le_refl
  have k : key .f64 r = key .f64 t := by omega
  rw [bne, ord_eq .f64 (Nat.le_of_lt h.small.fin) (Nat.le_of_lt h'.small.fin)]
  simp [k]
theorem val_neg (a : Nat) : val .f32 (Op.negFloat .f32 a) = -val .f32 a := by
  unfold val; rw [sg_neg', ru_neg']; cases sg FloatKind.f32.format a <;> simp
theorem width_eq {a0 a1 r t : Nat} (h : Rounds (val .f32 (Op.negFloat .f32 a0) - val .f32 (Op.negFloat .f32 a1)) r) (h' : Rounds (val .f32 a1 - val .f32 a0) t) : (FloatKind.f64.format.order r t != some .eq) = false := by
  rw [val_neg, val_neg, show -val .f32 a0 - -val .f32 a1 = val .f32 a1 - val .f32 a0 by grind] at h
  exact rounds_eq h h'
theorem abs64 (x : Nat) : -(ru FloatKind.f64.format x : Int) ≤ key .f64 x ∧ key .f64 x ≤ ru FloatKind.f64.format x ∧ ((ru FloatKind.f64.format x : Int) = key .f64 x ∨ (ru FloatKind.f64.format x : Int) = -key .f64 x) := by
  unfold key; cases sg FloatKind.f64.format x <;> simp <;> omega
theorem holds_is (a b v : Nat) (w : World) (h : holdsF a b v = true) : Calls Try.prog 28 #[.agg #[.float .f32 a, .float .f32 b], .float .f64 v] w fun e w' => e = .returned (.bool true) ∧ Below w.heap.size w w' := by
  rw [← h]; exact holds_any a b v w
/-- A number that a mild span holds. -/
def InS (a0 a1 x : Nat) : Prop := ru FloatKind.f32.format x < FloatKind.f32.format.infRung ∧ val .f32 a0 ≤ val .f32 x ∧ val .f32 x ≤ val .f32 a1
theorem in_of {a0 a1 x r : Nat} (hs : SpG a0 a1) (hr : cw .f64 r = widen (cw .f32 x)) (h : holdsF a0 a1 r = true) : InS a0 a1 x := by
  have f0 := hs.1.fin
  have f1 := hs.2.1.fin
  have w0 := (wd_fin f0).1
  have w1 := (wd_fin f1).1
  rcases Nat.lt_or_ge FloatKind.f64.format.infRung (ru FloatKind.f64.format r) with hn | hn
  · rw [holds_nan hn] at h; cases h
  · rw [holds_key f0 f1 hn] at h
    simp only [Bool.and_eq_true, decide_eq_true_eq] at h
    have hfr : ru FloatKind.f64.format r < FloatKind.f64.format.infRung := by
      have q0 := abs64 (wd a0)
      have q1 := abs64 (wd a1)
      have q2 := abs64 r
      omega
    have hfx : ru FloatKind.f32.format x < FloatKind.f32.format.infRung := by
      have h3 := fin_widen hr
      have h4 : finB .f64 r = true := decide_eq_true hfr
      rw [h4] at h3
      exact of_decide_eq_true h3.symm
    have hrx := widen_wd (Nat.le_of_lt hfx) hr
    subst hrx
    refine ⟨hfx, ?_, ?_⟩
    · refine Rat.not_lt.1 fun hlt => ?_
      have := (wd_key hfx f0).2 ((key_val_lt .f32 x a0).1 hlt)
      omega
    · refine Rat.not_lt.1 fun hlt => ?_
      have := (wd_key f1 hfx).2 ((key_val_lt .f32 a1 x).1 hlt)
      omega
theorem in_bound {a0 a1 x : Nat} (hs : SpG a0 a1) (h : InS a0 a1 x) : -vOf 1 30 ≤ val .f64 (wd x) ∧ val .f64 (wd x) ≤ vOf 1 30 := by
  obtain ⟨_, l0, _⟩ := wd_mild hs.1
  obtain ⟨_, _, l1⟩ := wd_mild hs.2.1
  rw [(wd_fin hs.1.fin).2] at l0
  rw [(wd_fin hs.2.1.fin).2] at l1
  rw [(wd_fin h.1).2]
  have := h.2
  constructor <;> grind
section
variable {a0 a1 b0 b1 x y : Nat} (ha : SpG a0 a1) (hb : SpG b0 b1) (hx : InS a0 a1 x) (hy : InS b0 b1 y)
include ha hb hx hy
theorem sum_in {s0 s1 r : Nat} (h : Has s0 s1 (val .f32 a0 + val .f32 b0) (val .f32 a1 + val .f32 b1)) (hr : SumW (wd x) (wd y) r) : holdsF s0 s1 r = true := by
  obtain ⟨x1, x2⟩ := in_bound ha hx
  obtain ⟨y1, y2⟩ := in_bound hb hy
  have hp := pw_twice 30
  rw [show ((30 : Nat) : Int) = 30 by rfl, show ((30 + 1 : Nat) : Int) = 31 by rfl] at hp
  have hR := sum_rounds (k := 31) (by omega) (wd_fin hx.1).1 (wd_fin hy.1).1 (by show -vOf 1 31 ≤ _; grind) (by show _ ≤ vOf 1 31; grind) hr
  rw [(wd_fin hx.1).2, (wd_fin hy.1).2] at hR
  have := hx.2
  have := hy.2
  exact h r _ hR (by grind) (by grind)
theorem mul_in {s0 s1 r : Nat} (h : MulHas a0 a1 b0 b1 s0 s1) (hr : MulW (wd x) (wd y) r) : holdsF s0 s1 r = true := by
  obtain ⟨x1, x2⟩ := in_bound ha hx
  obtain ⟨y1, y2⟩ := in_bound hb hy
  have hp := prod_bound (vOf_nonneg 1 30) x1 x2 y1 y2
  rw [pw_square] at hp
  have hR := mul_rounds (k := 60) (by omega) (wd_fin hx.1).1 (wd_fin hy.1).1 hp.1 hp.2 hr
  rw [(wd_fin hx.1).2, (wd_fin hy.1).2] at hR
  exact h _ _ r hx.2.1 hx.2.2 hy.2.1 hy.2.2 hR
end
theorem neg_in {a0 a1 x : Nat} (ha : SpG a0 a1) (hx : InS a0 a1 x) : holdsF (Op.negFloat .f32 a1) (Op.negFloat .f32 a0) (Op.negFloat .f64 (wd x)) = true := by
  have hn := spg_neg ha
  have f0 := hn.1.fin
  have f1 := hn.2.1.fin
  have wx := wd_fin hx.1
  have hru : ru FloatKind.f64.format (Op.negFloat .f64 (wd x)) = ru FloatKind.f64.format (wd x) := ru_neg' .f64 _
  have hv : val .f64 (Op.negFloat .f64 (wd x)) = -val .f32 x := by
    rw [← wx.2]
    unfold val; rw [sg_neg', ru_neg']; cases sg FloatKind.f64.format (wd x) <;> simp
  rw [holds_key f0 f1 (by rw [hru]; exact Nat.le_of_lt wx.1)]
  simp only [Bool.and_eq_true, decide_eq_true_eq]
  refine ⟨hn.2.2, ?_, ?_⟩
  · refine Int.not_lt.1 fun h4 => ?_
    have := (key_val_lt .f64 _ _).2 h4
    rw [(wd_fin f0).2, hv, val_neg] at this
    have := hx.2
    grind
  · refine Int.not_lt.1 fun h4 => ?_
    have := (key_val_lt .f64 _ _).2 h4
    rw [(wd_fin f1).2, hv, val_neg] at this
    have := hx.2
    grind

set_option maxRecDepth 100000 in
set_option maxHeartbeats 4000000 in
theorem walk_small (A : Option Addr) (len cap : Nat) (w : World) (h : len ≤ 1048576) (hlen : len ≤ maxLen) (hrow : RowOk w.heap.size w A len) :
    Calls Try.prog 6 #[.slice A len cap] w fun en w' => en = .returned (.bool true) ∧ Below w.heap.size w w' := by
  have h' : ¬ (1048576 : Int) < (len : Int) := by omega
  go_enter Try.func6, Try.ntmps6
  go_wp2_with (first | (go_at_call 18; (with_reducible refine (big_any _ _ _ _).mono ?_); rintro en w9 ⟨rfl, hw9⟩; have hw9x := hw9.symm; clear hw9; subst hw9x) | (go_at_call 25; (with_reducible refine (drawSpans_any _ _ _ _ hlen (hrow.more (by repeat (first | exact Below.refl _ _ | assumption | refine bl_drewN ?_ _ | refine bl_drew ?_ | refine bl_alloc ?_ _ | refine bl_set ?_ (by first | (simp; done) | (simp; omega) | omega | (simp [World.setCell]; done) | (simp [World.setCell]; omega)) _ | refine bl_call ?_ (by assumption))) (by omega))).mono ?_); rintro en w1 ⟨a0, a1, b0, b1, x, y, rfl, hga, hgb, hb1⟩; have HGA := Lib.hid hga; have HGB := Lib.hid hgb; have HB1 := Lib.hid hb1; have OA := Lib.hid (spg_ok hga); have OB := Lib.hid (spg_ok hgb); clear hga hgb hb1) | (go_at_call 29; (with_reducible refine (spanOk_ex a0 a1 _).mono ?_); rw [OA.out]; rintro e w9 ⟨rfl, hw9⟩; have hw9x := hw9.symm; clear hw9; subst hw9x) | (go_at_call 29; (with_reducible refine (spanOk_ex b0 b1 _).mono ?_); rw [OB.out]; rintro e w9 ⟨rfl, hw9⟩; have hw9x := hw9.symm; clear hw9; subst hw9x) | (go_at_call 30; (with_reducible refine (addSpans_any _ _ _ _ _ HGA.out HGB.out).mono ?_); rintro en w2 ⟨s0, s1, rfl, hhas, hb2⟩; have HS := Lib.hid hhas; clear hhas; have HB2 := Lib.hid (bl_call (by repeat (first | exact Below.refl _ _ | assumption | refine bl_drewN ?_ _ | refine bl_drew ?_ | refine bl_alloc ?_ _ | refine bl_set ?_ (by first | (simp; done) | (simp; omega) | omega | (simp [World.setCell]; done) | (simp [World.setCell]; omega)) _ | refine bl_call ?_ (by assumption))) hb2 : Below w1.heap.size w1 w2); have RA2 := Lib.hid ((((((Blk.new w1 26 #[.float .f32 a0, .float .f32 a1]).alloc _).alloc _).alloc _)).below hb2 (by first | (simp; done) | (simp; omega) | omega)); have RB2 := Lib.hid (((((Blk.new_at (g := w1.heap.size + 1) (w1.alloc (.cells #[.float .f32 a0, .float .f32 a1] 26)) 26 #[.float .f32 b0, .float .f32 b1] (by simp)).alloc _).alloc _)).below hb2 (by first | (simp; done) | (simp; omega) | omega)); clear hb2; have hs2 := HB2.out.size; have hl21 : w1.heap.size + 1 < w2.heap.size := RB2.out.lt; have hl20 : w1.heap.size < w2.heap.size := (by omega); have hn20 : ¬ w1.heap.size = w2.heap.size := (by omega); have hn21 : ¬ w1.heap.size + 1 = w2.heap.size := (by omega); have u0 := RA2.out.cell 0; have u1 := RA2.out.cell 1; have v0 := RB2.out.cell 0; have v1 := RB2.out.cell 1; simp only [List.getElem?_toArray, List.getElem?_cons_zero, List.getElem?_cons_succ] at u0 u1 v0 v1) | (go_at_call 31; (with_reducible refine (mulSpans_any _ _ _ _ _ HGA.out HGB.out).mono ?_); rintro en w3 ⟨p0, p1, rfl, hmul, hb3⟩; have HM := Lib.hid hmul; clear hmul; have RA3 := Lib.hid ((RA2.out.alloc (.cells #[.float .f32 s0, .float .f32 s1] 26)).below hb3 (by first | (simp; done) | (simp; omega) | omega)); have RB3 := Lib.hid ((RB2.out.alloc (.cells #[.float .f32 s0, .float .f32 s1] 26)).below hb3 (by first | (simp; done) | (simp; omega) | omega)); have RS3 := Lib.hid ((Blk.new w2 26 #[.float .f32 s0, .float .f32 s1]).below hb3 (by simp)); have HB3 := Lib.hid (bl_call (bl_alloc (Below.refl _ _) _) hb3 : Below w2.heap.size w2 w3); clear hb3; have hl32 : w2.heap.size < w3.heap.size := RS3.out.lt; have hl31 : w1.heap.size + 1 < w3.heap.size := (by omega); have hl30 : w1.heap.size < w3.heap.size := (by omega); have hn30 : ¬ w1.heap.size = w3.heap.size := (by omega); have hn31 : ¬ w1.heap.size + 1 = w3.heap.size := (by omega); have u0 := RA3.out.cell 0; have u1 := RA3.out.cell 1; have v0 := RB3.out.cell 0; have v1 := RB3.out.cell 1; simp only [List.getElem?_toArray, List.getElem?_cons_zero, List.getElem?_cons_succ] at u0 u1 v0 v1) | (go_at_call 32; (with_reducible refine (negSpan_any _ _ _ OA.out).mono ?_); rintro en w4 ⟨rfl, hb4⟩; have MB4 := Lib.hid (CtB.mk (((RA3.out.alloc (.cells #[.float .f32 p0, .float .f32 p1] 26)).below hb4 (by first | (simp; done) | (simp; omega) | omega)).alloc (.cells #[.float .f32 (Op.negFloat .f32 a1), .float .f32 (Op.negFloat .f32 a0)] 26)) (((RB3.out.alloc (.cells #[.float .f32 p0, .float .f32 p1] 26)).below hb4 (by first | (simp; done) | (simp; omega) | omega)).alloc (.cells #[.float .f32 (Op.negFloat .f32 a1), .float .f32 (Op.negFloat .f32 a0)] 26)) (((RS3.out.alloc (.cells #[.float .f32 p0, .float .f32 p1] 26)).below hb4 (by first | (simp; done) | (simp; omega) | omega)).alloc (.cells #[.float .f32 (Op.negFloat .f32 a1), .float .f32 (Op.negFloat .f32 a0)] 26)) (((Blk.new w3 26 #[.float .f32 p0, .float .f32 p1]).below hb4 (by simp)).alloc (.cells #[.float .f32 (Op.negFloat .f32 a1), .float .f32 (Op.negFloat .f32 a0)] 26)) (Blk.new w4 26 #[.float .f32 (Op.negFloat .f32 a1), .float .f32 (Op.negFloat .f32 a0)])); have HB4 := Lib.hid (bl_call (bl_call (bl_call (HB1.out) HB2.out) HB3.out) (bl_call (bl_alloc (Below.refl _ _) _) hb4) : Below w.heap.size w w4); clear hb4))
  obtain ⟨u0, u1, v0, v1, s0c, s1c, p0c, p1c, n0c, n1c⟩ := MB4.out.cells
  have HGN := Lib.hid (spg_neg HGA.out)
  have HC4 := Lib.hid (ct_keep MB4.out)
  clear u0 u1 v0 v1 s0c s1c p0c p1c n0c n1c
  go_region_held3 (fun W => W.cell? ⟨w1.heap.size, 0, none⟩ = some (.float .f32 a0) ∧ W.cell? ⟨w1.heap.size, 1, none⟩ = some (.float .f32 a1) ∧ W.cell? ⟨w4.heap.size, 0, none⟩ = some (.float .f32 (Op.negFloat .f32 a1)) ∧ W.cell? ⟨w4.heap.size, 1, none⟩ = some (.float .f32 (Op.negFloat .f32 a0))) (first | exact HC6.out | exact HC5.out | exact HC4.out) (first | (go_at_call 33; (with_reducible refine (widthOf_any a0 a1 _ HGA.out).mono ?_); rintro en w6 ⟨ra, rfl, hra, hb6⟩; have hq := width_eq HRN.out hra; clear hra; have MB6 := Lib.hid (MB5.out.below hb6); have HB6 := Lib.hid (bl_call HB5.out hb6); clear hb6; have HC6 := Lib.hid (ct_keep MB6.out)) | (go_at_call 33; (with_reducible refine (widthOf_any (Op.negFloat .f32 a1) (Op.negFloat .f32 a0) _ HGN.out).mono ?_); rintro en w5 ⟨rn, rfl, hrn, hb5⟩; have HRN := Lib.hid hrn; clear hrn; have hbX := bl_call (bl_drew (Below.refl _ _)) hb5; have MB5 := Lib.hid (MB4.out.below hbX); have HB5 := Lib.hid (bl_call (bl_alloc HB4.out _) hbX); clear hb5 hbX; have HC5 := Lib.hid (ct_keep MB5.out)))
  all_goals
    obtain ⟨u0, u1, v0, v1, s0c, s1c, p0c, p1c, n0c, n1c⟩ := MB6.out.cells
    go_wp2_with (refine wpl_widen 66 Try.underlying24 Try.underlying39 rfl rfl rfl rfl ?_; intro r66 n66 hr66)
    refine (holds_any _ _ _ _).mono ?_
    rintro en w7 ⟨rfl, hb7⟩
    have MB7 := Lib.hid (MB6.out.below (bl_call (bl_drewN (Below.refl _ _) _) hb7))
    have HB7 := Lib.hid (bl_call (bl_drewN HB6.out _) hb7)
    clear hb7 u0 u1 v0 v1 s0c s1c p0c p1c n0c n1c
    obtain ⟨u0, u1, v0, v1, s0c, s1c, p0c, p1c, n0c, n1c⟩ := MB7.out.cells
    obtain ⟨p, hp⟩ : ∃ p, holdsF a0 a1 r66 = p := ⟨_, rfl⟩
    rw [hp]
    have HP := Lib.hid hp
    clear hp
    cases p
    · go_wp2
      go_ret
      exact ⟨rfl, by have h := HB7.out; repeat (first | exact Below.refl _ _ | assumption | refine bl_drewN ?_ _ | refine bl_drew ?_ | refine bl_alloc ?_ _ | refine bl_set ?_ (by first | (simp; done) | (simp; omega) | omega | (simp [World.setCell]; done) | (simp [World.setCell]; omega)) _ | refine bl_call ?_ (by assumption))⟩
    · have HX := Lib.hid (in_of HGA.out hr66.out.1 HP.out)
      go_wp2_with (refine wpl_widen 72 Try.underlying24 Try.underlying39 rfl rfl rfl rfl ?_; intro r72 n72 hr72)
      refine (holds_any _ _ _ _).mono ?_
      rintro en w8 ⟨rfl, hb8⟩
      have MB8 := Lib.hid (MB7.out.below (bl_call (bl_drewN (Below.refl _ _) _) hb8))
      have HB8 := Lib.hid (bl_call (bl_drewN HB7.out _) hb8)
      clear hb8 u0 u1 v0 v1 s0c s1c p0c p1c n0c n1c
      obtain ⟨u0, u1, v0, v1, s0c, s1c, p0c, p1c, n0c, n1c⟩ := MB8.out.cells
      obtain ⟨q, hqq⟩ : ∃ p, holdsF b0 b1 r72 = p := ⟨_, rfl⟩
      rw [hqq]
      have HQ := Lib.hid hqq
      clear hqq
      cases q
      · go_wp2
        go_ret
        exact ⟨rfl, by have h := HB8.out; repeat (first | exact Below.refl _ _ | assumption | refine bl_drewN ?_ _ | refine bl_drew ?_ | refine bl_alloc ?_ _ | refine bl_set ?_ (by first | (simp; done) | (simp; omega) | omega | (simp [World.setCell]; done) | (simp [World.setCell]; omega)) _ | refine bl_call ?_ (by assumption))⟩
      · have HY := Lib.hid (in_of HGB.out hr72.out.1 HQ.out)
        have NX := Lib.hid (Nat.le_of_lt HX.out.1)
        have NY := Lib.hid (Nat.le_of_lt HY.out.1)
        have HF := Lib.hid (neg_in HGA.out HX.out)
        go_wp2_with (first | (refine wpl_widen 78 Try.underlying24 Try.underlying39 rfl rfl rfl rfl ?_; intro r78 n78 hr78; obtain rfl := widen_wd NX.out hr78.out.1) | (refine wpl_widen 80 Try.underlying24 Try.underlying39 rfl rfl rfl rfl ?_; intro r80 n80 hr80; obtain rfl := widen_wd NY.out hr80.out.1) | (refine wpl_farith 81 rfl rfl rfl rfl rfl rfl ?_; intro r81 n81 hr81; have HS81 := Lib.hid (sum_in HGA.out HGB.out HX.out HY.out HS.out hr81.out.1)) | (refine wpl_widen 86 Try.underlying24 Try.underlying39 rfl rfl rfl rfl ?_; intro r86 n86 hr86; obtain rfl := widen_wd NX.out hr86.out.1) | (refine wpl_widen 88 Try.underlying24 Try.underlying39 rfl rfl rfl rfl ?_; intro r88 n88 hr88; obtain rfl := widen_wd NY.out hr88.out.1) | (refine wpl_farith 89 rfl rfl rfl rfl rfl rfl ?_; intro r89 n89 hr89; have HM89 := Lib.hid (mul_in HGA.out HGB.out HX.out HY.out HM.out hr89.out.1)) | (refine wpl_widen 95 Try.underlying24 Try.underlying39 rfl rfl rfl rfl ?_; intro r95 n95 hr95; obtain rfl := widen_wd NX.out hr95.out.1) | (go_at_call 28; (with_reducible refine (holds_is s0 s1 r81 _ HS81.out).mono ?_); rintro en wA ⟨rfl, hbA⟩; have MBA := Lib.hid (MB8.out.below (bl_call (bl_drewN (Below.refl _ _) _) hbA)); have HBA := Lib.hid (bl_call (bl_drewN HB8.out _) hbA); clear hbA; obtain ⟨u0, u1, v0, v1, s0c, s1c, p0c, p1c, n0c, n1c⟩ := MBA.out.cells) | (go_at_call 28; (with_reducible refine (holds_is p0 p1 r89 _ HM89.out).mono ?_); rintro en wB ⟨rfl, hbB⟩; have MBB := Lib.hid (MBA.out.below (bl_call (bl_drewN (Below.refl _ _) _) hbB)); have HBB := Lib.hid (bl_call (bl_drewN HBA.out _) hbB); clear hbB; obtain ⟨u0, u1, v0, v1, s0c, s1c, p0c, p1c, n0c, n1c⟩ := MBB.out.cells) | (go_at_call 28; (with_reducible refine (holds_is _ _ _ _ HF.out).mono ?_); rintro en wC ⟨rfl, hbC⟩; have HBC := Lib.hid (bl_call (bl_drewN HBB.out _) hbC); clear hbC))
        go_ret
        exact ⟨rfl, by have h := HBC.out; repeat (first | exact Below.refl _ _ | assumption | refine bl_drewN ?_ _ | refine bl_drew ?_ | refine bl_alloc ?_ _ | refine bl_set ?_ (by first | (simp; done) | (simp; omega) | omega | (simp [World.setCell]; done) | (simp [World.setCell]; omega)) _ | refine bl_call ?_ (by assumption))⟩
theorem walk (A : Option Addr) (len cap : Nat) (w : World) (hlen : len ≤ maxLen) (hrow : RowOk w.heap.size w A len) :
    Calls Try.prog 6 #[.slice A len cap] w fun en w' => en = .returned (.bool true) ∧ Below w.heap.size w w' := by
  rcases Nat.lt_or_ge 1048576 len with h | h
  · exact walk_big A len cap w h
  · exact walk_small A len cap w h hlen hrow

set_option maxRecDepth 100000 in
theorem lifted (os : Os) (started : os.Started) (H : Type) (enc : TypeId × Value → H) :
    ReturnsInHanded {} Try.checked os 6 .any (Rows.fnContainedSpec.pre6 enc Try.prog Try.f6 Rows.fnContainedRow.domain false) (Rows.fnContainedSpec.post enc Try.prog Try.f6 false true false false) := by
  refine returnsInHanded_of_change (C := Try.checked) own started (by kernel_rfl) Try.func6
    (ChangeSpec.witness6 (enc := enc) (C := Try.checked) false ⟨#[], #[.slice none 0 0], []⟩ 8 (by kernel_rfl) (by kernel_rfl) (by kernel_rfl) (by kernel_rfl)) ?_
  intro W base args ds gs before hval0 hW hcnd _
  have hval : ∀ (j : Nat) t v, Try.f6.params[j]? = some t → args[j]? = some v → Value.okWide Try.prog W .any base t v := hval0
  have hW' := hW
  obtain ⟨p, q, hA0, hV, rfl, hfz, hnd⟩ := hW
  have hA : DataW.TrodAll enc Try.prog W 0 (fun _ => true) true Try.f6.params.toList args.toList ds p := hA0
  rw [Try.params6] at hA hval
  obtain ⟨v0, vs0, d0, ds0, p0, q0, hargs, rfl, rfl, h0, r0⟩ := trodAll_cons hA
  obtain ⟨rfl, rfl, rfl⟩ := trodAll_nil r0
  obtain rfl : args = #[v0] := by cases args; simp_all
  obtain ⟨rfl, rfl⟩ := trodVars_none hV
  obtain ⟨a0, len0, cap0, rfl⟩ := okWide_slice Try.underlying34 (hval 0 34 v0 rfl rfl)
  have k0 := h0
  have lt0 : ∀ x ∈ p0, x.block < W.heap.size := by obtain ⟨m, hm⟩ := k0; exact DataW.trod_lt m _ _ _ hm
  obtain ⟨hl, hr⟩ : len0 ≤ maxLen ∧ RowOk W.heap.size W a0 len0 := by
    obtain ⟨fuel, hf⟩ := h0
    rcases open_ints Try.underlying34 Try.underlying5 (by kernel_rfl) hf with ⟨hcs, _⟩ | ⟨x, l, c, zs, hcs, _, hl, hm, hz, _, hcell, hwz⟩
    · simp [Value.cells] at hcs
      obtain ⟨rfl, rfl, rfl⟩ := hcs
      exact row_of (zs := []) (.inl ⟨rfl, rfl, rfl, rfl⟩)
    · simp [Value.cells] at hcs
      obtain ⟨rfl, rfl, rfl⟩ := hcs
      exact row_of (.inr ⟨_, rfl, hl, hm, by simpa using hz, hcell, hwz⟩)
  clear hA0 hval0
  refine (walk a0 len0 cap0 W hl hr).mono fun e W' ⟨he, bel⟩ => ?_
  subst he
  exact ⟨_, rfl, _, _, _, [], _, [], hW', trodAll_mk1 (shut_bool Try.underlying4 _), (trodAll_cons_mk (Below.trod laidOut (by kernel_rfl) (of_decide_eq_true (by kernel_rfl)) k0 bel lt0) trodAll_mk0), rfl, bel.frame _, fun h => by cases h⟩

theorem proved : Rows.FnContainedSaid :=
  OpenClaim.holds_of_wide 6 Try.f6 rfl rfl rfl rfl rfl rfl rfl ⟨rfl, rfl, rfl, rfl, rfl⟩ rfl rfl rfl rfl rfl (by kernel_rfl) Try.func6 (by kernel_rfl)
    (of_decide_eq_true (by kernel_rfl)) (by unfold Func.isWrapper; first | (rw [if_pos (by decide +kernel)]; kernel_rfl) | (rw [if_neg (by decide +kernel)]; exact ⟨rfl, rfl⟩))
    (fun os started H enc _ => lifted os started H enc)
#print axioms proved
end Go.Proofs.Ytldcciipicnooaa.fnContained
