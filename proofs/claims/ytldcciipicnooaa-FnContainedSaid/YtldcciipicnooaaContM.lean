/- The walks of products, negatives and widths of spans. -/
import Derived.Test.YtldcciipicnooaaContW
namespace Go.Proofs.Ytldcciipicnooaa
open Go.RowKit
attribute [local go_sem] run_neg_float run_store_float run_store_complex

theorem mild_fin {a : Nat} (h : Mild a) : finB .f32 a = true := decide_eq_true h.fin
set_option maxRecDepth 100000 in
theorem bounded_any (a0 a1 : Nat) (w : World) (ha : SpG a0 a1) :
    Calls Try.prog 60 #[.agg #[.float .f32 a0, .float .f32 a1]] w fun e w' => e = .returned (.bool true) ∧ Below w.heap.size w w' := by
  have OA := Lib.hid (spg_ok ha)
  have HA0 := Lib.hid (mild_fin ha.1)
  have HA1 := Lib.hid (mild_fin ha.2.1)
  clear ha
  go_enter Try.func60, Try.ntmps60
  go_wp2_with (first | (go_at_call 29; (with_reducible refine (spanOk_ex a0 a1 _).mono ?_); rw [OA.out]; rintro e w9 ⟨rfl, hw9⟩; have hw9x := hw9.symm; clear hw9; subst hw9x) | (go_at_call 64; (with_reducible refine (finiteSingle_is a0 true _ HA0.out).mono ?_); rintro e w2 ⟨rfl, n2, rfl⟩) | (go_at_call 64; (with_reducible refine (finiteSingle_is a1 true _ HA1.out).mono ?_); rintro e w2 ⟨rfl, n3, rfl⟩))
  go_ret
  exact ⟨rfl, by repeat (first | exact Below.refl _ _ | assumption | refine bl_drewN ?_ _ | refine bl_drew ?_ | refine bl_alloc ?_ _ | refine bl_set ?_ (by first | (simp; done) | (simp; omega) | omega | (simp [World.setCell]; done) | (simp [World.setCell]; omega)) _ | refine bl_call ?_ (by assumption))⟩
set_option maxRecDepth 100000 in
theorem negSpan_any (a0 a1 : Nat) (w : World) (ha : spOk a0 a1 = true) :
    Calls Try.prog 32 #[.agg #[.float .f32 a0, .float .f32 a1]] w fun e w' => e = .returned (.tuple #[.agg #[.float .f32 (Op.negFloat .f32 a1), .float .f32 (Op.negFloat .f32 a0)], .bool true]) ∧ Below w.heap.size w w' := by
  have OA := Lib.hid ha
  clear ha
  go_enter Try.func32, Try.ntmps32
  go_wp2_with (go_at_call 29; (with_reducible refine (spanOk_ex a0 a1 _).mono ?_); rw [OA.out]; rintro e w9 ⟨rfl, hw9⟩; have hw9x := hw9.symm; clear hw9; subst hw9x)
  exact bodyPost_ret (by simp [results, Try.results32, go_sem]) rfl ⟨rfl, by repeat (first | exact Below.refl _ _ | assumption | refine bl_drewN ?_ _ | refine bl_drew ?_ | refine bl_alloc ?_ _ | refine bl_set ?_ (by first | (simp; done) | (simp; omega) | omega | (simp [World.setCell]; done) | (simp [World.setCell]; omega)) _ | refine bl_call ?_ (by assumption))⟩
theorem spg_neg {a0 a1 : Nat} (h : SpG a0 a1) : SpG (Op.negFloat .f32 a1) (Op.negFloat .f32 a0) :=
  ⟨⟨neg_lt .f32 h.2.1.1, by rw [ru_neg']; exact h.2.1.2⟩, ⟨neg_lt .f32 h.1.1, by rw [ru_neg']; exact h.1.2⟩, by rw [key_neg', key_neg']; have := h.2.2; omega⟩
theorem bound31' {a b : Nat} (ha : Mild a) (hb : Mild b) : -vOf 1 31 ≤ val .f64 (wd a) - val .f64 (wd b) ∧ val .f64 (wd a) - val .f64 (wd b) ≤ vOf 1 31 := by
  obtain ⟨_, a1, a2⟩ := wd_mild ha
  obtain ⟨_, b1, b2⟩ := wd_mild hb
  have := pw_twice 30
  rw [show ((30 : Nat) : Int) = 30 by rfl, show ((30 + 1 : Nat) : Int) = 31 by rfl] at this
  constructor <;> grind
def WiEnd (a0 a1 : Nat) (w : World) (en : Ending) (w' : World) : Prop := ∃ r, en = .returned (.float .f64 r) ∧ Rounds (val .f32 a1 - val .f32 a0) r ∧ Below w.heap.size w w'
set_option maxRecDepth 100000 in
theorem widthOf_any (a0 a1 : Nat) (w : World) (ha : SpG a0 a1) :
    Calls Try.prog 33 #[.agg #[.float .f32 a0, .float .f32 a1]] w (WiEnd a0 a1 w) := by
  have HA := Lib.hid ha
  clear ha
  have B0 := Blk.new w 26 #[.float .f32 a0, .float .f32 a1]
  go_enter Try.func33, Try.ntmps33
  go_wp2_with (first | (go_at_call 60; (with_reducible refine (bounded_any _ _ _ HA.out).mono ?_); rintro e w2 ⟨rfl, hb2⟩; have B2 := B0.below hb2 (by simp); have u0 := B2.cell 0; have u1 := B2.cell 1; simp only [List.getElem?_toArray, List.getElem?_cons_zero, List.getElem?_cons_succ] at u0 u1; have HB2 := Lib.hid hb2; clear hb2) | (refine wpl_widen 8 Try.underlying24 Try.underlying39 rfl rfl rfl rfl ?_; intro r1 n1 hr1; obtain rfl := widen_wd (Nat.le_of_lt HA.out.2.1.fin) hr1.out.1) | (refine wpl_widen 11 Try.underlying24 Try.underlying39 rfl rfl rfl rfl ?_; intro r2 n2 hr2; obtain rfl := widen_wd (Nat.le_of_lt HA.out.1.fin) hr2.out.1) | (refine wpl_farith 12 rfl rfl rfl rfl rfl rfl ?_; intro r3 n3 hr3))
  go_ret
  refine ⟨r3, rfl, ?_, ?_⟩
  · have h := bound31' HA.out.2.1 HA.out.1
    rw [← (wd_fin HA.out.2.1.fin).2, ← (wd_fin HA.out.1.fin).2]
    exact sub_rounds (k := 31) (by omega) (wd_fin HA.out.2.1.fin).1 (wd_fin HA.out.1.fin).1 h.1 h.2 hr3.out.1
  · have h := HB2.out
    repeat (first | exact Below.refl _ _ | assumption | refine bl_drewN ?_ _ | refine bl_drew ?_ | refine bl_alloc ?_ _ | refine bl_set ?_ (by first | (simp; done) | (simp; omega) | omega | (simp [World.setCell]; done) | (simp [World.setCell]; omega)) _ | refine bl_call ?_ (by assumption))

theorem mul_mild {a b r : Nat} (ha : Mild a) (hb : Mild b) (h : MulW (wd a) (wd b) r) : Rounds (val .f32 a * val .f32 b) r := by
  obtain ⟨f1, a1, a2⟩ := wd_mild ha
  obtain ⟨f2, b1, b2⟩ := wd_mild hb
  have hp := prod_bound (vOf_nonneg 1 30) a1 a2 b1 b2
  rw [pw_square] at hp
  rw [← (wd_fin ha.fin).2, ← (wd_fin hb.fin).2]
  exact mul_rounds (k := 60) (by omega) f1 f2 hp.1 hp.2 h

/-- Of the four products of ends l is at most each, g at least each. -/
def Corners (l g p1 p2 p3 p4 : Nat) : Prop := (key .f64 l ≤ key .f64 p1 ∧ key .f64 l ≤ key .f64 p2 ∧ key .f64 l ≤ key .f64 p3 ∧ key .f64 l ≤ key .f64 p4) ∧ key .f64 p1 ≤ key .f64 g ∧ key .f64 p2 ≤ key .f64 g ∧ key .f64 p3 ≤ key .f64 g ∧ key .f64 p4 ≤ key .f64 g
def MulHas (a0 a1 b0 b1 s0 s1 : Nat) : Prop := ∀ (x y : Rat) v, val .f32 a0 ≤ x → x ≤ val .f32 a1 → val .f32 b0 ≤ y → y ≤ val .f32 b1 → Rounds (x * y) v → holdsF s0 s1 v = true
theorem mulHas_of {a0 a1 b0 b1 s0 s1 l g p1 p2 p3 p4 : Nat} (h1 : Rounds (val .f32 a0 * val .f32 b0) p1) (h2 : Rounds (val .f32 a0 * val .f32 b1) p2) (h3 : Rounds (val .f32 a1 * val .f32 b0) p3) (h4 : Rounds (val .f32 a1 * val .f32 b1) p4)
    (hl : Small l) (hg : Small g) (hc : Corners l g p1 p2 p3 p4) (hd : RdR l s0) (hu : RuR g s1) : spOk s0 s1 = true ∧ MulHas a0 a1 b0 b1 s0 s1 := by
  obtain ⟨⟨l1, l2, l3, l4⟩, g1, g2, g3, g4⟩ := hc
  have a := rd_val hd hl.fin
  have b := ru_val hu hg.fin
  have hok := spOk_of hl.fin hg.fin hd hu (by omega)
  refine ⟨hok, fun x y v x1 x2 y1 y2 hv => ?_⟩
  rw [holds_key hd.1 hu.1 (Nat.le_of_lt hv.small.fin)]
  rw [spOk_key hd.1 hu.1] at hok
  rw [hok]
  have m1 : key .f64 l ≤ key .f64 v := by
    rcases corner_low x1 x2 y1 y2 with h | h | h | h
    · have := h1.mono hv h; omega
    · have := h2.mono hv h; omega
    · have := h3.mono hv h; omega
    · have := h4.mono hv h; omega
  have m2 : key .f64 v ≤ key .f64 g := by
    rcases corner_high x1 x2 y1 y2 with h | h | h | h
    · have := hv.mono h1 h; omega
    · have := hv.mono h2 h; omega
    · have := hv.mono h3 h; omega
    · have := hv.mono h4 h; omega
  simp
  omega

def MuEnd (a0 a1 b0 b1 : Nat) (w : World) (en : Ending) (w' : World) : Prop := ∃ s0 s1, en = .returned (.tuple #[.agg #[.float .f32 s0, .float .f32 s1], .bool true]) ∧ MulHas a0 a1 b0 b1 s0 s1 ∧ Below w.heap.size w w'
/-- What holds ahead of each round: l and g among the products so far. -/
def LmRel (w : World) (g4 gl p1 p2 p3 p4 : Nat) (tl tg i : Value) (wr : World) : Prop :=
  ∃ (k l g : Nat), k ≤ 3 ∧ tl = .float .f64 l ∧ tg = .float .f64 g ∧ i = .int .i64 (k : Int) ∧ Small l ∧ Small g ∧ (key .f64 l ≤ key .f64 p1 ∧ key .f64 p1 ≤ key .f64 g) ∧ (1 ≤ k → key .f64 l ≤ key .f64 p2 ∧ key .f64 p2 ≤ key .f64 g) ∧ (2 ≤ k → key .f64 l ≤ key .f64 p3 ∧ key .f64 p3 ≤ key .f64 g) ∧ (3 ≤ k → key .f64 l ≤ key .f64 p4 ∧ key .f64 p4 ≤ key .f64 g) ∧
    Below w.heap.size w wr ∧ Blk wr g4 26 #[.float .f32 0, .float .f32 0] ∧ Blk wr gl 39 #[.float .f64 p2, .float .f64 p3, .float .f64 p4]

theorem spanned_b (a b : Nat) (w : World) (h : spOk a b = true) :
    Calls Try.prog 59 #[.float .f32 a, .float .f32 b] w fun e w' => e = .returned (.tuple #[.agg #[.float .f32 a, .float .f32 b], .bool true]) ∧ Below w.heap.size w w' := by
  refine (spanned_ex a b w).mono ?_
  rintro e w' ⟨rfl, o1, o2, o3, rfl⟩
  rw [h]
  exact ⟨rfl, by repeat (first | exact Below.refl _ _ | assumption | refine bl_drewN ?_ _ | refine bl_drew ?_ | refine bl_alloc ?_ _ | refine bl_set ?_ (by first | (simp; done) | (simp; omega) | omega | (simp [World.setCell]; done) | (simp [World.setCell]; omega)) _ | refine bl_call ?_ (by assumption))⟩
theorem lm_step {w wr : World} {g4 gl p1 p2 p3 p4 k l g v l' g' : Nat} (hlt : k < 3) (hsl : Small l) (hsg : Small g) (hvs : Small v) (hvo : (k = 0 → v = p2) ∧ (k = 1 → v = p3) ∧ (k = 2 → v = p4))
    (ho : (key .f64 l ≤ key .f64 p1 ∧ key .f64 p1 ≤ key .f64 g) ∧ (1 ≤ k → key .f64 l ≤ key .f64 p2 ∧ key .f64 p2 ≤ key .f64 g) ∧ (2 ≤ k → key .f64 l ≤ key .f64 p3 ∧ key .f64 p3 ≤ key .f64 g) ∧ (3 ≤ k → key .f64 l ≤ key .f64 p4 ∧ key .f64 p4 ≤ key .f64 g))
    (h1 : key .f64 l' ≤ key .f64 v) (h2 : key .f64 v ≤ key .f64 g') (hl : l' = l ∨ l' = v ∧ key .f64 v ≤ key .f64 l) (hg : g' = g ∨ g' = v ∧ key .f64 g ≤ key .f64 v)
    (hB : Below w.heap.size w wr) (hC : Blk wr g4 26 #[.float .f32 0, .float .f32 0]) (hL : Blk wr gl 39 #[.float .f64 p2, .float .f64 p3, .float .f64 p4]) :
    LmRel w g4 gl p1 p2 p3 p4 (.float .f64 l') (.float .f64 g') (.int .i64 ((k : Int) + 1)) wr := by
  have hl' : key .f64 l' ≤ key .f64 l := by
    rcases hl with rfl | ⟨rfl, h⟩
    · exact Int.le_refl _
    · exact h
  have hg' : key .f64 g ≤ key .f64 g' := by
    rcases hg with rfl | ⟨rfl, h⟩
    · exact Int.le_refl _
    · exact h
  have hsl' : Small l' := by rcases hl with rfl | ⟨rfl, _⟩ <;> assumption
  have hsg' : Small g' := by rcases hg with rfl | ⟨rfl, _⟩ <;> assumption
  obtain ⟨o1, o2, o3, o4⟩ := ho
  obtain ⟨v0, v1, v2⟩ := hvo
  refine ⟨k + 1, l', g', by omega, rfl, rfl, rfl, hsl', hsg', ⟨by omega, by omega⟩, fun _ => ?_, fun h => ?_, fun h => ?_, hB, hC, hL⟩
  · rcases Nat.eq_zero_or_pos k with h0 | h0
    · have := v0 h0; subst this; exact ⟨h1, h2⟩
    · have := o2 h0; exact ⟨by omega, by omega⟩
  · rcases Nat.lt_or_ge k 2 with h0 | h0
    · have := v1 (by omega); subst this; exact ⟨h1, h2⟩
    · have := o3 h0; exact ⟨by omega, by omega⟩
  · have := v2 (by omega); subst this; exact ⟨h1, h2⟩
set_option maxRecDepth 100000 in
set_option maxHeartbeats 2000000 in
theorem mulSpans_any (a0 a1 b0 b1 : Nat) (w : World) (ha : SpG a0 a1) (hb : SpG b0 b1) :
    Calls Try.prog 31 #[.agg #[.float .f32 a0, .float .f32 a1], .agg #[.float .f32 b0, .float .f32 b1]] w (MuEnd a0 a1 b0 b1 w) := by
  have HA := Lib.hid ha
  have HB := Lib.hid hb
  clear ha hb
  have N0 := Lib.hid (Nat.le_of_lt HA.out.1.fin)
  have N1 := Lib.hid (Nat.le_of_lt HA.out.2.1.fin)
  have N2 := Lib.hid (Nat.le_of_lt HB.out.1.fin)
  have N3 := Lib.hid (Nat.le_of_lt HB.out.2.1.fin)
  have A0 := ((Blk.new w 26 #[.float .f32 a0, .float .f32 a1]).alloc (.cells #[.float .f32 b0, .float .f32 b1] 26)).alloc (.cells #[.float .f32 0, .float .f32 0] 26)
  have B0 := (Blk.new_at (g := w.heap.size + 1) (w.alloc (.cells #[.float .f32 a0, .float .f32 a1] 26)) 26 #[.float .f32 b0, .float .f32 b1] (by simp)).alloc (.cells #[.float .f32 0, .float .f32 0] 26)
  have C0 := Blk.new_at (g := w.heap.size + 1 + 1) ((w.alloc (.cells #[.float .f32 a0, .float .f32 a1] 26)).alloc (.cells #[.float .f32 b0, .float .f32 b1] 26)) 26 #[.float .f32 0, .float .f32 0] (by simp)
  go_enter Try.func31, Try.ntmps31
  go_wp2_with (first | (go_at_call 60; (with_reducible refine (bounded_any b0 b1 _ HB.out).mono ?_); rintro e w3 ⟨rfl, hb3⟩; have A3 := Lib.hid (A2.out.below hb3 (Blk.lt A2.out)); have B3 := Lib.hid (B2.out.below hb3 (Blk.lt B2.out)); have C3 := Lib.hid (C2.out.below hb3 (Blk.lt C2.out)); have u0 := A3.out.cell 0; have u1 := A3.out.cell 1; have v0 := B3.out.cell 0; have v1 := B3.out.cell 1; simp only [List.getElem?_toArray, List.getElem?_cons_zero, List.getElem?_cons_succ] at u0 u1 v0 v1; have HB3 := Lib.hid (bl_call HB2.out hb3); clear hb3) | (go_at_call 60; (with_reducible refine (bounded_any a0 a1 _ HA.out).mono ?_); rintro e w2 ⟨rfl, hb2⟩; have A2 := Lib.hid (A0.below hb2 (by first | (simp; done) | (simp; omega))); have B2 := Lib.hid (B0.below hb2 (by first | (simp; done) | (simp; omega))); have C2 := Lib.hid (C0.below hb2 (by first | (simp; done) | (simp; omega))); have u0 := A2.out.cell 0; have u1 := A2.out.cell 1; have v0 := B2.out.cell 0; have v1 := B2.out.cell 1; simp only [List.getElem?_toArray, List.getElem?_cons_zero, List.getElem?_cons_succ] at u0 u1 v0 v1; have HB2 := Lib.hid (bl_call (bl_alloc (bl_alloc (bl_alloc (Below.refl _ _) _) _) _) hb2); clear hb2) | (refine wpl_widen 21 Try.underlying24 Try.underlying39 rfl rfl rfl rfl ?_; intro x21 n21 hr21; obtain rfl := widen_wd N0.out hr21.out.1) | (refine wpl_widen 24 Try.underlying24 Try.underlying39 rfl rfl rfl rfl ?_; intro x24 n24 hr24; obtain rfl := widen_wd N2.out hr24.out.1) | (refine wpl_widen 29 Try.underlying24 Try.underlying39 rfl rfl rfl rfl ?_; intro x29 n29 hr29; obtain rfl := widen_wd N0.out hr29.out.1) | (refine wpl_widen 32 Try.underlying24 Try.underlying39 rfl rfl rfl rfl ?_; intro x32 n32 hr32; obtain rfl := widen_wd N3.out hr32.out.1) | (refine wpl_widen 36 Try.underlying24 Try.underlying39 rfl rfl rfl rfl ?_; intro x36 n36 hr36; obtain rfl := widen_wd N1.out hr36.out.1) | (refine wpl_widen 39 Try.underlying24 Try.underlying39 rfl rfl rfl rfl ?_; intro x39 n39 hr39; obtain rfl := widen_wd N2.out hr39.out.1) | (refine wpl_widen 43 Try.underlying24 Try.underlying39 rfl rfl rfl rfl ?_; intro x43 n43 hr43; obtain rfl := widen_wd N1.out hr43.out.1) | (refine wpl_widen 46 Try.underlying24 Try.underlying39 rfl rfl rfl rfl ?_; intro x46 n46 hr46; obtain rfl := widen_wd N3.out hr46.out.1) | (refine wpl_farith 25 rfl rfl rfl rfl rfl rfl ?_; intro p1 m1 hp1) | (refine wpl_farith 33 rfl rfl rfl rfl rfl rfl ?_; intro p2 m2 hp2) | (refine wpl_farith 40 rfl rfl rfl rfl rfl rfl ?_; intro p3 m3 hp3) | (refine wpl_farith 47 rfl rfl rfl rfl rfl rfl ?_; intro p4 m4 hp4))
  have R1 := Lib.hid (mul_mild HA.out.1 HB.out.1 hp1.out.1)
  have R2 := Lib.hid (mul_mild HA.out.1 HB.out.2.1 hp2.out.1)
  have R3 := Lib.hid (mul_mild HA.out.2.1 HB.out.1 hp3.out.1)
  have R4 := Lib.hid (mul_mild HA.out.2.1 HB.out.2.1 hp4.out.1)
  go_loopw [6, 7, 50] (fun l g i wr => LmRel w (w.heap.size + 1 + 1) w3.heap.size p1 p2 p3 p4 l g i wr) (fun _ _ i _ => 3 - (intOf i).toNat)
  case atStart => exact ⟨0, p1, p1, by omega, rfl, rfl, rfl, R1.out.small, R1.out.small, ⟨Int.le_refl _, Int.le_refl _⟩, fun h => absurd h (by omega), fun h => absurd h (by omega), fun h => absurd h (by omega), by have h := HB3.out; repeat (first | exact Below.refl _ _ | assumption | refine bl_drewN ?_ _ | refine bl_drew ?_ | refine bl_alloc ?_ _ | refine bl_set ?_ (by first | (simp; done) | (simp; omega) | omega | (simp [World.setCell]; done) | (simp [World.setCell]; omega)) _ | refine bl_call ?_ (by assumption)), (C3.out.drewN _).alloc _, Blk.new_at _ _ _ rfl⟩
  case round =>
    obtain ⟨k, l, g, hk, rfl, rfl, rfl, hsl, hsg, ho1, ho2, ho3, ho4, hB, hC, hL⟩ := hrel
    have HC := Lib.hid hC
    have HL := Lib.hid hL
    have HBW := Lib.hid hB
    have HSL := Lib.hid hsl
    have HSG := Lib.hid hsg
    have HO := Lib.hid (And.intro ho1 (And.intro ho2 (And.intro ho3 ho4)))
    clear hB hC hL hsl hsg ho1 ho2 ho3 ho4
    by_cases hlt : k < 3
    · have hk3 : (k : Int) < 3 := by omega
      obtain ⟨v, hv, hvs, hvo⟩ : ∃ v, wr.cell? ⟨w3.heap.size, k, none⟩ = some (.float .f64 v) ∧ Small v ∧ ((k = 0 → v = p2) ∧ (k = 1 → v = p3) ∧ (k = 2 → v = p4)) := by
        match k, hlt with
        | 0, _ => exact ⟨p2, HL.out.cell 0, R2.out.small, fun _ => rfl, fun h => absurd h (by omega), fun h => absurd h (by omega)⟩
        | 1, _ => exact ⟨p3, HL.out.cell 1, R3.out.small, fun h => absurd h (by omega), fun _ => rfl, fun h => absurd h (by omega)⟩
        | 2, _ => exact ⟨p4, HL.out.cell 2, R4.out.small, fun h => absurd h (by omega), fun h => absurd h (by omega), fun _ => rfl⟩
      have HVS := Lib.hid hvs
      have HVO := Lib.hid hvo
      clear hvs hvo
      obtain ⟨t1, ht1⟩ : ∃ t, (FloatKind.f64.format.order v l == some .lt) = t := ⟨_, rfl⟩
      obtain ⟨t2, ht2⟩ : ∃ t, (FloatKind.f64.format.order v g == some .gt) = t := ⟨_, rfl⟩
      have k1 := ht1
      have k2 := ht2
      rw [ord_lt .f64 (Nat.le_of_lt HVS.out.fin) (Nat.le_of_lt HSL.out.fin)] at k1
      rw [ord_gt .f64 (Nat.le_of_lt HVS.out.fin) (Nat.le_of_lt HSG.out.fin)] at k2
      have K1 := Lib.hid k1
      have K2 := Lib.hid k2
      clear k1 k2
      cases t1 <;> cases t2
      · go_wp2
        exact ⟨lm_step (l' := l) (g' := g) hlt HSL.out HSG.out HVS.out HVO.out HO.out (by have := of_decide_eq_false K1.out; omega) (by have := of_decide_eq_false K2.out; omega) (.inl rfl) (.inl rfl) HBW.out HC.out HL.out, by show 3 - ((k : Int) + 1).toNat < 3 - (k : Int).toNat; omega⟩
      · go_wp2
        exact ⟨lm_step (l' := l) (g' := v) hlt HSL.out HSG.out HVS.out HVO.out HO.out (by have := of_decide_eq_false K1.out; omega) (by have := of_decide_eq_true K2.out; omega) (.inl rfl) (.inr ⟨rfl, by have := of_decide_eq_true K2.out; omega⟩) HBW.out HC.out HL.out, by show 3 - ((k : Int) + 1).toNat < 3 - (k : Int).toNat; omega⟩
      · go_wp2
        exact ⟨lm_step (l' := v) (g' := g) hlt HSL.out HSG.out HVS.out HVO.out HO.out (by have := of_decide_eq_true K1.out; omega) (by have := of_decide_eq_false K2.out; omega) (.inr ⟨rfl, by have := of_decide_eq_true K1.out; omega⟩) (.inl rfl) HBW.out HC.out HL.out, by show 3 - ((k : Int) + 1).toNat < 3 - (k : Int).toNat; omega⟩
      · go_wp2
        exact ⟨lm_step (l' := v) (g' := v) hlt HSL.out HSG.out HVS.out HVO.out HO.out (by omega) (by omega) (.inr ⟨rfl, by have := of_decide_eq_true K1.out; omega⟩) (.inr ⟨rfl, by have := of_decide_eq_true K2.out; omega⟩) HBW.out HC.out HL.out, by show 3 - ((k : Int) + 1).toNat < 3 - (k : Int).toNat; omega⟩
    · have hk3 : ¬ (k : Int) < 3 := by omega
      have HQ : Hid (Corners l g p1 p2 p3 p4) := Lib.hid (by
        obtain ⟨h1, h2, h3, h4⟩ := HO.out
        have h2 := h2 (by omega)
        have h3 := h3 (by omega)
        have h4 := h4 (by omega)
        exact ⟨⟨h1.1, h2.1, h3.1, h4.1⟩, h1.2, h2.2, h3.2, h4.2⟩)
      have z2 := HC.out.frozen 0
      have z3 := HC.out.frozen 1
      have z0 := HC.out.cell 0
      have z1 := HC.out.cell 1
      have hzl := HC.out.lt
      have hnl : ¬ w.heap.size + 1 + 1 = wr.heap.size := by omega
      have hnl1 : ¬ w.heap.size + 1 + 1 = wr.heap.size + 1 := by omega
      have hnl2 : ¬ w.heap.size + 1 + 1 = wr.heap.size + 1 + 1 := by omega
      have hnl3 : ¬ w.heap.size + 1 = wr.heap.size := by omega
      have hnl5 : ¬ w.heap.size + 2 = wr.heap.size := by omega
      have hzl5 : w.heap.size + 2 < wr.heap.size := by omega
      have hnl4 : ¬ w.heap.size = wr.heap.size := by omega
      have hzl1 : w.heap.size + 1 + 1 < wr.heap.size + 1 := by omega
      have hzl2 : w.heap.size + 1 + 1 < wr.heap.size + 1 + 1 := by omega
      have hzl3 : w.heap.size + 1 < wr.heap.size := by omega
      have hzl4 : w.heap.size < wr.heap.size := by omega
      simp only [List.getElem?_toArray, List.getElem?_cons_zero, List.getElem?_cons_succ] at z0 z1
      go_wp2_with (first | (go_at_call 23; (with_reducible refine (roundDownI_any _ _ HSL.out.mid).mono ?_); rintro e w5 ⟨s0, n5, rfl, _, hs0, rfl⟩; have HS0 := Lib.hid hs0; clear hs0) | (go_at_call 24; (with_reducible refine (roundUpI_any _ _ HSG.out.mid).mono ?_); rintro e w6 ⟨s1, n6, rfl, _, hs1, rfl⟩; have HS1 := Lib.hid hs1; clear hs1; have HH := Lib.hid (mulHas_of R1.out R2.out R3.out R4.out HSL.out HSG.out HQ.out HS0.out HS1.out)) | (go_at_call 59; (with_reducible refine (spanned_b _ _ _ HH.out.1).mono ?_); rintro e w7 ⟨rfl, hb7⟩; have C7 := Lib.hid ((HC.out.drewN (n5 + n6)).below hb7 HC.out.lt); have HB7 := Lib.hid (bl_call (bl_drewN HBW.out (n5 + n6)) hb7); clear hb7; have c70 := C7.out.cell 0; have c71 := C7.out.cell 1; have f70 := C7.out.frozen 0; have f71 := C7.out.frozen 1; simp only [List.getElem?_toArray, List.getElem?_cons_zero, List.getElem?_cons_succ] at c70 c71))
      have q0 := ((C7.out.set_ 0 (.float .f32 s0)).set_ 1 (.float .f32 s1)).cell 0
      have q1 := ((C7.out.set_ 0 (.float .f32 s0)).set_ 1 (.float .f32 s1)).cell 1
      simp at q0 q1
      refine bodyPost_ret (v := .tuple #[.agg #[.float .f32 s0, .float .f32 s1], .bool true]) ?hh rfl ?ee
      case hh => (simp (maxDischargeDepth := 6) [results, Try.results31, go_sem, q0, q1])
      case ee => exact ⟨s0, s1, rfl, HH.out.2, by have h := HB7.out; repeat (first | exact Below.refl _ _ | assumption | refine bl_drewN ?_ _ | refine bl_drew ?_ | refine bl_alloc ?_ _ | refine bl_set ?_ (by first | (simp; done) | (simp; omega) | omega | (simp [World.setCell]; done) | (simp [World.setCell]; omega)) _ | refine bl_call ?_ (by assumption))⟩
end Go.Proofs.Ytldcciipicnooaa
