/- The exact laws' helpers at rows of nodes: eqNodeS at two rows of the same good nodes, markNodeS and heldNodeS at a row of one's own. No condition but these. -/
import Derived.Test.YtjgjgjkffoagoaaDoorRzP
import Derived.Test.YtjgjgjkffoagoaaDoorEx
import Derived.Deep.RegionHeld3
namespace Go.Proofs.YtjgjgjkffoagoaaDoor
open Go.RowKit
attribute [local go_sem] run_store_float run_store_complex
set_option maxRecDepth 100000
set_option maxHeartbeats 1000000
set_option linter.unusedVariables false
set_option linter.unusedSimpArgs false

theorem one_over {r : Nat} (hr : cw .f64 r = arithR .quo .f64 (cw .f64 4607182418800017408) (cw .f64 0)) : r = 9218868437227405312 := by
  have h : arithR .quo .f64 (cw .f64 4607182418800017408) (cw .f64 0) = some 9218868437227405312 := by kernel_rfl
  rw [h] at hr
  exact cw_out hr
theorem good_eq0 {x : Nat} (h : GoodW x) : (FloatKind.f64.format.order x 0 == some .eq) = decide (x = 0) := by
  have h1 := good_gt h
  have h2 := good_ge h
  by_cases hx : x = 0
  · subst hx; decide
  · rw [decide_eq_false hx]
    rw [decide_eq_true hx] at h1
    cases hq : FloatKind.f64.format.order x 0 with
    | none => rfl
    | some o => rw [hq] at h1; cases o <;> first | rfl | (exact absurd h1 (by decide))
theorem sameFloat_good (x : Nat) (w : World) (h : GoodW x) : Calls Tryd.prog 71 #[.float .f64 x, .float .f64 x] w fun e w' => e = .returned (.bool true) ∧ ∃ n, w' = w.drewN n := by
  have h0 : (FloatKind.f64.format.order x x == some .eq) = true := by rw [h.fin.1.order]; rfl
  have h1 : (FloatKind.f64.format.order x x != some .eq) = false := by rw [h.fin.1.order]; rfl
  have h2 := good_eq0 h
  by_cases hx : x = 0
  · subst hx
    have hg : (FloatKind.f64.format.order 9218868437227405312 0 == some .gt) = true := by decide
    clear h h2 h0 h1
    go_enter Tryd.func71, Tryd.ntmps71
    go_wp2_with (first | (refine wpl_farith 28 rfl rfl rfl rfl rfl rfl ?_; intro r1 n1 hr1; obtain rfl := one_over hr1.out.1; clear hr1) | (refine wpl_farith 31 rfl rfl rfl rfl rfl rfl ?_; intro r2 n2 hr2; obtain rfl := one_over hr2.out.1; clear hr2))
    go_ret
    exact ⟨rfl, _, rfl⟩
  · rw [decide_eq_false hx] at h2
    clear h hx
    go_enter Tryd.func71, Tryd.ntmps71
    go_wp2
    go_ret
    exact ⟨rfl, 0, (World.drewN_zero _).symm⟩
theorem sameCplx_good (re im : Nat) (w : World) (h1 : GoodW re) (h2 : GoodW im) : Calls Tryd.prog 51 #[.complex .f64 re im, .complex .f64 re im] w fun e w' => e = .returned (.bool true) ∧ ∃ n, w' = w.drewN n := by
  go_enter Tryd.func51, Tryd.ntmps51
  go_wp2_with (first | (go_at_call 71; (with_reducible refine (sameFloat_good re _ h1).mono ?_); rintro e w1 ⟨rfl, n1, hw⟩; subst hw) | (go_at_call 71; (with_reducible refine (sameFloat_good im _ h2).mono ?_); rintro e w1 ⟨rfl, n2, hw⟩; subst hw))
  go_ret
  exact ⟨rfl, _, rfl⟩
theorem GoodW.zero : GoodW 0 := ⟨by decide, 0, by decide, by decide, by decide, by kernel_rfl⟩
theorem goodP_words {x : Nd} (h : GoodP x) : GoodW x.re ∧ GoodW x.im := by
  rcases h with ⟨_, _, hv⟩ | ⟨_, _, h1, h2⟩ | ⟨_, _, h1, h2⟩
  · exact hv.both
  · rw [h1, h2]; exact ⟨GoodW.zero, GoodW.zero⟩
  · rw [h1, h2]; exact ⟨GoodW.zero, GoodW.zero⟩
theorem eqNode_self (x : Nd) (w : World) (h : GoodP x) :
    Calls Tryd.prog 30 #[.agg #[.int .i64 x.kind, .int .i64 x.slot, .complex .f64 x.re x.im], .agg #[.int .i64 x.kind, .int .i64 x.slot, .complex .f64 x.re x.im]] w fun e w' => e = .returned (.bool true) ∧ Below w.heap.size w w' := by
  obtain ⟨h1, h2⟩ := goodP_words h
  have d1 : (x.kind != x.kind) = false := by simp
  have d2 : (x.slot != x.slot) = false := by simp
  clear h
  go_enter Tryd.func30, Tryd.ntmps30
  go_wp2_with (go_at_call 51; (with_reducible refine (sameCplx_good x.re x.im _ h1 h2).mono ?_); rintro e w1 ⟨rfl, n1, hw⟩; subst hw)
  go_ret
  exact ⟨rfl, by repeat (first | exact Below.refl _ _ | assumption | refine bl_drewN ?_ _ | refine bl_drew ?_ | refine bl_alloc ?_ _ | refine bl_set ?_ (by first | (simp; done) | (simp; omega) | omega | (simp [World.setCell]; done) | (simp [World.setCell]; omega)) _ | refine bl_call ?_ (by assumption))⟩
theorem eqNodeS_nil (a b : Option Addr) (c d : Nat) (w : World) : Calls Tryd.prog 12 #[.slice a 0 c, .slice b 0 d] w fun e w' => e = .returned (.bool true) ∧ w' = w := by
  go_enter Tryd.func12, Tryd.ntmps12
  go_wp2
  go_loopw [5] (fun i wr => i = .int .i64 0 ∧ wr = w) (fun _ _ => 0)
  case atStart => exact ⟨rfl, rfl⟩
  case round =>
    obtain ⟨rfl, hw⟩ := hrel
    have hw := hw.symm
    subst hw
    go_wp2
    go_ret
    exact ⟨rfl, rfl⟩
theorem eqNodeS_self (l : List Nd) (v u : Value) (w : World) (hv : NView w v l) (hu : NView w u l) (hl : l.length ≤ 60) (hg : ∀ x ∈ l, GoodP x) :
    Calls Tryd.prog 12 #[v, u] w fun e w' => e = .returned (.bool true) ∧ Below w.heap.size w w' := by
  obtain ⟨g, cap, rfl, hgw, hc⟩ := hv
  obtain ⟨g', cap', rfl, hgw', hc'⟩ := hu
  have HC := Lib.hid hc
  have HC' := Lib.hid hc'
  clear hc hc'
  have d0 : ((l.length : Int) != (l.length : Int)) = false := by simp
  go_enter Tryd.func12, Tryd.ntmps12
  go_wp2
  go_loopw [5] (fun i wr => ∃ k : Nat, i = .int .i64 k ∧ k ≤ l.length ∧ Below w.heap.size w wr) (fun i _ => l.length - (RowKit.intOf i).toNat)
  case atStart => exact ⟨0, rfl, Nat.zero_le _, Below.refl _ _⟩
  case round =>
    obtain ⟨k, rfl, hk, hb⟩ := hrel
    have HB := Lib.hid hb
    have HCW := Lib.hid (HC.out.below hb hgw)
    have HCW' := Lib.hid (HC'.out.below hb hgw')
    have hgr : g < wr.heap.size := Nat.lt_of_lt_of_le hgw hb.size
    have hgr' : g' < wr.heap.size := Nat.lt_of_lt_of_le hgw' hb.size
    clear hb
    by_cases hkl : k < l.length
    · have ck : decide ((k : Int) < (l.length : Int)) = true := decide_eq_true (by omega)
      have ck2 : (k : Int) < (l.length : Int) := by omega
      have HSX : Hid (∀ X, Below wr.heap.size wr X → (X.cell? ⟨g, k * 3, none⟩ = some (.int .i64 l[k].kind) ∧ X.cell? ⟨g, k * 3 + 1, none⟩ = some (.int .i64 l[k].slot) ∧ X.cell? ⟨g, k * 3 + 2, none⟩ = some (.complex .f64 l[k].re l[k].im) ∧ X.cell? ⟨g', k * 3, none⟩ = some (.int .i64 l[k].kind) ∧ X.cell? ⟨g', k * 3 + 1, none⟩ = some (.int .i64 l[k].slot) ∧ X.cell? ⟨g', k * 3 + 2, none⟩ = some (.complex .f64 l[k].re l[k].im))) := Lib.hid fun X hX => by
        obtain ⟨x0, x1, x2⟩ := (HCW.out.below hX hgr) k hkl
        obtain ⟨y0, y1, y2⟩ := (HCW'.out.below hX hgr') k hkl
        exact ⟨x0, x1, x2, y0, y1, y2⟩
      have HS : Hid (∀ W, Calls Tryd.prog 30 #[.agg #[.int .i64 l[k].kind, .int .i64 l[k].slot, .complex .f64 l[k].re l[k].im], .agg #[.int .i64 l[k].kind, .int .i64 l[k].slot, .complex .f64 l[k].re l[k].im]] W fun e w' => e = .returned (.bool true) ∧ Below W.heap.size W w') := Lib.hid (fun W => eqNode_self l[k] W (hg _ (List.getElem_mem hkl)))
      go_upto_region 6 with fail
      go_region_held3 (fun X => X.cell? ⟨g, k * 3, none⟩ = some (.int .i64 l[k].kind) ∧ X.cell? ⟨g, k * 3 + 1, none⟩ = some (.int .i64 l[k].slot) ∧ X.cell? ⟨g, k * 3 + 2, none⟩ = some (.complex .f64 l[k].re l[k].im) ∧ X.cell? ⟨g', k * 3, none⟩ = some (.int .i64 l[k].kind) ∧ X.cell? ⟨g', k * 3 + 1, none⟩ = some (.int .i64 l[k].slot) ∧ X.cell? ⟨g', k * 3 + 2, none⟩ = some (.complex .f64 l[k].re l[k].im)) (exact HSX.out _ (by repeat (first | (with_reducible exact Below.refl _ _) | (with_reducible refine bl_drew ?_) | (with_reducible refine bl_call ?_ (by assumption)) | assumption))) (first | (go_at_call 30; refine (HS.out _).mono ?_; rintro e w5 ⟨rfl, hb5⟩))
      have hb9 := bl_call (bl_drew HB.out) hb5
      go_wp2
      case roundEnd => exact ⟨⟨k + 1, by simp, by omega, hb9⟩, by simp [RowKit.intOf]; omega⟩
    · have ck : decide ((k : Int) < (l.length : Int)) = false := decide_eq_false (by omega)
      go_wp2
      go_ret
      exact ⟨rfl, HB.out⟩
/-- The marks on the first k nodes of a row's cells. -/
def Marked (cs : Array Value) (k : Nat) : Prop := ∀ j, j < k → cs[j * 3]? = some (.int .i64 ((3 * j + 1 : Nat) : Int)) ∧ cs[j * 3 + 1]? = some (.int .i64 ((3 * j + 2 : Nat) : Int)) ∧ cs[j * 3 + 2]? = some (.complex .f64 (floatOfInt .f64 ((3 * j + 3 : Nat) : Int)) 4607182418800017408)
theorem marked_next {cs : Array Value} {k : Nat} (h : Marked cs k) (hs : k * 3 + 2 < cs.size) : Marked (((cs.setIfInBounds (k * 3) (.int .i64 (3 * (k : Int) + 1))).setIfInBounds (k * 3 + 1) (.int .i64 (3 * (k : Int) + 1 + 1))).setIfInBounds (k * 3 + 2) (.complex .f64 (floatOfInt .f64 (3 * (k : Int) + 1 + 1 + 1)) 4607182418800017408)) (k + 1) := by
  have e1 : 3 * (k : Int) + 1 = ((3 * k + 1 : Nat) : Int) := by omega
  have e2 : 3 * (k : Int) + 1 + 1 = ((3 * k + 2 : Nat) : Int) := by omega
  have e3 : 3 * (k : Int) + 1 + 1 + 1 = ((3 * k + 3 : Nat) : Int) := by omega
  rw [e3, e2, e1]
  intro j hj
  rcases Nat.lt_or_ge j k with h1 | h1
  · obtain ⟨a, b, c⟩ := h j h1
    refine ⟨?_, ?_, ?_⟩
    all_goals
      rw [Array.getElem?_setIfInBounds_ne (by omega), Array.getElem?_setIfInBounds_ne (by omega), Array.getElem?_setIfInBounds_ne (by omega)]
      assumption
  · obtain rfl : j = k := by omega
    refine ⟨?_, ?_, ?_⟩
    · rw [Array.getElem?_setIfInBounds_ne (by omega), Array.getElem?_setIfInBounds_ne (by omega), Array.getElem?_setIfInBounds_self_of_lt (by omega)]
    · rw [Array.getElem?_setIfInBounds_ne (by omega), Array.getElem?_setIfInBounds_self_of_lt (by simp; omega)]
    · rw [Array.getElem?_setIfInBounds_self_of_lt (by simp; omega)]
/-- What markNodeS ends with. -/
def MkNEnd (n g : Nat) (w : World) (e : Ending) (w' : World) : Prop := e = .returned (.int .i64 ((3 * n + 1 : Nat) : Int)) ∧ Kept g w w' ∧ ∃ cs, Blk w' g 43 cs ∧ Marked cs n
theorem markNodeS_any (n g cap : Nat) (cs0 : Array Value) (w : World) (hn : n ≤ 60) (hb : Blk w g 43 cs0) (hsz : n * 3 ≤ cs0.size) : Calls Tryd.prog 13 #[.slice (some ⟨g, 0, none⟩) n cap, .int .i64 1] w (MkNEnd n g w) := by
  have HB := Lib.hid hb
  clear hb
  go_enter Tryd.func13, Tryd.ntmps13
  go_wp2
  go_loopw [1, 5] (fun m i wr => ∃ (k : Nat) (cs : Array Value), i = .int .i64 k ∧ m = .int .i64 (3 * (k : Int) + 1) ∧ k ≤ n ∧ Kept g w wr ∧ Blk wr g 43 cs ∧ cs.size = cs0.size ∧ Marked cs k) (fun _ i _ => n - (RowKit.intOf i).toNat)
  case atStart => exact ⟨0, cs0, rfl, rfl, Nat.zero_le _, Kept.refl _ _, HB.out, rfl, fun j hj => absurd hj (Nat.not_lt_zero _)⟩
  case round =>
    obtain ⟨k, cs, rfl, rfl, hk, hkp, hblk, hcs, hmk⟩ := hrel
    have HK := Lib.hid hkp
    have HBK := Lib.hid hblk
    have HM := Lib.hid hmk
    clear hkp hmk
    by_cases hkl : k < n
    · have ck : decide ((k : Int) < (n : Int)) = true := decide_eq_true (by omega)
      have ck2 : (k : Int) < (n : Int) := by omega
      have f0 := hblk.frozen (k * 3)
      have z0 : wr.cell? ⟨g, k * 3, none⟩ = some cs[k * 3] := by rw [hblk.cell]; exact Array.getElem?_eq_getElem (by omega)
      have hb1 := hblk.set_ (k * 3) (.int .i64 (3 * (k : Int) + 1))
      have f1 := hb1.frozen (k * 3 + 1)
      have z1 : (wr.setCell ⟨g, k * 3, none⟩ (.int .i64 (3 * (k : Int) + 1))).cell? ⟨g, k * 3 + 1, none⟩ = some cs[k * 3 + 1] := by rw [hb1.cell, Array.getElem?_setIfInBounds_ne (by omega)]; exact Array.getElem?_eq_getElem (by omega)
      have hb2 := hb1.set_ (k * 3 + 1) (.int .i64 (3 * (k : Int) + 1 + 1))
      have f2 := hb2.frozen (k * 3 + 2)
      have z2 : ((wr.setCell ⟨g, k * 3, none⟩ (.int .i64 (3 * (k : Int) + 1))).setCell ⟨g, k * 3 + 1, none⟩ (.int .i64 (3 * (k : Int) + 1 + 1))).cell? ⟨g, k * 3 + 2, none⟩ = some cs[k * 3 + 2] := by rw [hb2.cell, Array.getElem?_setIfInBounds_ne (by omega), Array.getElem?_setIfInBounds_ne (by omega)]; exact Array.getElem?_eq_getElem (by omega)
      have HB3 := Lib.hid (hb2.set_ (k * 3 + 2) (.complex .f64 (floatOfInt .f64 (3 * (k : Int) + 1 + 1 + 1)) 4607182418800017408))
      have HK3 := Lib.hid (kp_set (kp_set (kp_set HK.out (k * 3) (.int .i64 (3 * (k : Int) + 1))) (k * 3 + 1) (.int .i64 (3 * (k : Int) + 1 + 1))) (k * 3 + 2) (.complex .f64 (floatOfInt .f64 (3 * (k : Int) + 1 + 1 + 1)) 4607182418800017408))
      have HM3 := Lib.hid (marked_next HM.out (by omega))
      clear hb1 hb2 hblk
      go_wp2
      case roundEnd => exact ⟨⟨k + 1, _, by simp, by congr 1 <;> omega, by omega, HK3.out, HB3.out, by simp; exact hcs, HM3.out⟩, by simp [RowKit.intOf]; omega⟩
    · have ck : decide ((k : Int) < (n : Int)) = false := decide_eq_false (by omega)
      obtain rfl : k = n := by omega
      clear hblk
      go_wp2
      go_ret
      exact ⟨by congr 2, HK.out, cs, HBK.out, HM.out⟩
theorem fin_nat {k : Nat} (h : k < 2 ^ 53) : FinW (floatOfInt .f64 (k : Int)) := ⟨(Is.ofNat h).1, (Is.ofNat h).2.2.1⟩
theorem heldNodeS_any (n g cap : Nat) (cs : Array Value) (w : World) (hn : n ≤ 60) (hb : Blk w g 43 cs) (hm : Marked cs n) : Calls Tryd.prog 14 #[.slice (some ⟨g, 0, none⟩) n cap, .int .i64 1] w fun e w' => e = .returned (.int .i64 ((3 * n + 1 : Nat) : Int)) ∧ w' = w := by
  have HB := Lib.hid hb
  have HM := Lib.hid hm
  clear hb hm
  go_enter Tryd.func14, Tryd.ntmps14
  go_wp2
  go_loopw [1, 5] (fun m i wr => ∃ k : Nat, i = .int .i64 k ∧ m = .int .i64 (3 * (k : Int) + 1) ∧ k ≤ n ∧ wr = w) (fun _ i _ => n - (RowKit.intOf i).toNat)
  case atStart => exact ⟨0, rfl, rfl, Nat.zero_le _, rfl⟩
  case round =>
    obtain ⟨k, rfl, rfl, hk, hw⟩ := hrel
    have hw := hw.symm
    subst hw
    by_cases hkl : k < n
    · have ck : decide ((k : Int) < (n : Int)) = true := decide_eq_true (by omega)
      have ck2 : (k : Int) < (n : Int) := by omega
      obtain ⟨y0, y1, y2⟩ := HM.out k hkl
      have e1 : ((3 * k + 1 : Nat) : Int) = 3 * (k : Int) + 1 := by omega
      have e2 : ((3 * k + 2 : Nat) : Int) = 3 * (k : Int) + 1 + 1 := by omega
      have e3 : ((3 * k + 3 : Nat) : Int) = 3 * (k : Int) + 1 + 1 + 1 := by omega
      have hf : FinW (floatOfInt .f64 ((3 * k + 3 : Nat) : Int)) := fin_nat (by omega)
      rw [e1] at y0
      rw [e2] at y1
      rw [e3] at y2 hf
      have z0 : w.cell? ⟨g, k * 3, none⟩ = some (.int .i64 (3 * (k : Int) + 1)) := by rw [HB.out.cell]; exact y0
      have z1 : w.cell? ⟨g, k * 3 + 1, none⟩ = some (.int .i64 (3 * (k : Int) + 1 + 1)) := by rw [HB.out.cell]; exact y1
      have z2 : w.cell? ⟨g, k * 3 + 2, none⟩ = some (.complex .f64 (floatOfInt .f64 (3 * (k : Int) + 1 + 1 + 1)) 4607182418800017408) := by rw [HB.out.cell]; exact y2
      have o1 : (FloatKind.f64.format.order (floatOfInt .f64 (3 * (k : Int) + 1 + 1 + 1)) (floatOfInt .f64 (3 * (k : Int) + 1 + 1 + 1)) == some .eq) = true := by rw [hf.order]; rfl
      have o1' : (FloatKind.f64.format.order (floatOfInt .f64 (3 * (k : Int) + 1 + 1 + 1)) (floatOfInt .f64 (3 * (k : Int) + 1 + 1 + 1)) != some .eq) = false := by rw [hf.order]; rfl
      have o2 : (FloatKind.f64.format.order 4607182418800017408 4607182418800017408 == some .eq) = true := by decide
      have o2' : (FloatKind.f64.format.order 4607182418800017408 4607182418800017408 != some .eq) = false := by decide
      clear y0 y1 y2 e1 e2 e3 hf
      go_wp2
      case roundEnd => exact ⟨⟨k + 1, by simp, by congr 1 <;> omega, by omega, by first | rfl | trivial⟩, by simp [RowKit.intOf]; omega⟩
    · have ck : decide ((k : Int) < (n : Int)) = false := decide_eq_false (by omega)
      obtain rfl : k = n := by omega
      go_wp2
      go_ret
      exact ⟨by congr 2, rfl⟩
theorem markNodeS_nil (a : Option Addr) (c : Nat) (w : World) : Calls Tryd.prog 13 #[.slice a 0 c, .int .i64 1] w fun e w' => e = .returned (.int .i64 1) ∧ w' = w := by
  go_enter Tryd.func13, Tryd.ntmps13
  go_wp2
  go_loopw [1, 5] (fun m i wr => m = .int .i64 1 ∧ i = .int .i64 0 ∧ wr = w) (fun _ _ _ => 0)
  case atStart => exact ⟨rfl, rfl, rfl⟩
  case round =>
    obtain ⟨rfl, rfl, hw⟩ := hrel
    have hw := hw.symm
    subst hw
    go_wp2
    go_ret
    exact ⟨rfl, rfl⟩
theorem heldNodeS_nil (a : Option Addr) (c : Nat) (w : World) : Calls Tryd.prog 14 #[.slice a 0 c, .int .i64 1] w fun e w' => e = .returned (.int .i64 1) ∧ w' = w := by
  go_enter Tryd.func14, Tryd.ntmps14
  go_wp2
  go_loopw [1, 5] (fun m i wr => m = .int .i64 1 ∧ i = .int .i64 0 ∧ wr = w) (fun _ _ _ => 0)
  case atStart => exact ⟨rfl, rfl, rfl⟩
  case round =>
    obtain ⟨rfl, rfl, hw⟩ := hrel
    have hw := hw.symm
    subst hw
    go_wp2
    go_ret
    exact ⟨rfl, rfl⟩
end Go.Proofs.YtjgjgjkffoagoaaDoor
