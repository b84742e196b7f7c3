/- For every input laws.FnNeighbors returns true: between a single and the next one there is none; each number between them is rounded down to the one and up to the other. No condition. -/
import Derived.Test.YtldcciipicnooaaNear
import Derived.Test.YtldcciipicnooaaSign
import Derived.Deep.RegionWith
import Derived.ProofKit
import Derived.OpenShut
import Derived.ShutString
import Derived.ChangeOld
import Derived.Lib.SmallJoins
namespace Go.Proofs.Ytldcciipicnooaa.fnNeighbors
open Go.ChangeShapes Go.WideShapes Go.ChangeAt Go.RowKit Go.Joins
open Go.ChangeMaps (open_string shut_string)
attribute [local go_sem] run_neg_float

theorem own : ownKnob Try.prog.godebug = none := by kernel_rfl
theorem laidOut : laidOutB Try.prog = true := by kernel_rfl

set_option maxRecDepth 100000 in
set_option maxHeartbeats 1000000 in
theorem walk_big (A : Option Addr) (len cap : Nat) (w : World) (h : 1048576 < len) :
    Calls Try.prog 4 #[.slice A len cap] w fun en w' => en = .returned (.bool true) ∧ Below w.heap.size w w' := by
  have h' : (1048576 : Int) < (len : Int) := by omega
  go_enter Try.func4, Try.ntmps4
  go_wp2_with (go_at_call 18; (with_reducible refine (big_any _ _ _ _).mono ?_); rintro en w9 ⟨rfl, hw9⟩; have hw9x := hw9.symm; clear hw9; subst hw9x)
  go_ret
  exact ⟨rfl, by repeat (first | exact Below.refl _ _ | assumption | refine bl_drewN ?_ _ | refine bl_drew ?_ | refine bl_alloc ?_ _ | refine bl_set ?_ (by first | (simp; done) | (simp; omega) | omega | (simp [World.setCell]; done) | (simp [World.setCell]; omega)) _ | refine bl_call ?_ (by assumption))⟩



/-- Neither NaN nor the greatest infinity. -/
def NotX (x : Nat) : Prop := ru FloatKind.f32.format x ≤ FloatKind.f32.format.infRung ∧ x ≠ 2139095040
theorem fin_of {x : Nat} (h : finB .f32 x = true) : ru FloatKind.f32.format x < FloatKind.f32.format.infRung := of_decide_eq_true h
theorem key_le {x : Nat} (h : ru FloatKind.f32.format x ≤ FloatKind.f32.format.infRung) : -(2139095040 : Int) ≤ key .f32 x ∧ key .f32 x ≤ 2139095040 := by
  rw [i32] at h
  unfold key
  cases sg FloatKind.f32.format x <;> simp <;> omega
theorem nux {x y : Nat} (hx : NotX x) (h : NuR x y) : ru FloatKind.f32.format y ≤ FloatKind.f32.format.infRung ∧ key .f32 y = key .f32 x + 1 := by
  rcases h with ⟨h1, _⟩ | ⟨h1, _⟩ | ⟨_, _, h3, h4⟩
  · have := hx.1; omega
  · exact absurd h1 hx.2
  · exact ⟨h3, h4⟩
theorem up_gt {x y : Nat} (hx : NotX x) (h : NuR x y) : (FloatKind.f32.format.order y x == some .gt) = true := by
  obtain ⟨a, b⟩ := nux hx h
  rw [ord_gt .f32 a hx.1]
  exact decide_eq_true (by omega)
theorem down_ne {x y d : Nat} (hx : NotX x) (h : NuR x y) (hd : NuR (Op.negFloat .f32 y) (Op.negFloat .f32 d)) : (FloatKind.f32.format.order d x != some .eq) = false := by
  obtain ⟨a, b⟩ := nux hx h
  have kx := key_le hx.1
  have hn : NotX (Op.negFloat .f32 y) := by
    refine ⟨by rw [ru_neg']; exact a, fun e => ?_⟩
    have h1 : key .f32 (Op.negFloat .f32 y) = 2139095040 := by rw [e]; decide
    rw [key_neg'] at h1
    omega
  obtain ⟨a2, b2⟩ := nux hn hd
  rw [ru_neg'] at a2
  rw [key_neg', key_neg'] at b2
  rw [bne, eq_key a2 hx.1 (by omega)]
  rfl
theorem fy_true {x y : Nat} (hx : NotX x) (hk : finB .f32 x = true ∧ key .f32 x < 2139095039) (h : NuR x y) : finB .f32 y = true := by
  obtain ⟨a, b⟩ := nux hx h
  have := key_fin (fin_of hk.1)
  exact decide_eq_true (fin_key a (by omega) (by omega))
theorem fy_false {x y : Nat} (hx : NotX x) (hk : key .f32 x = 2139095039) (h : NuR x y) : finB .f32 y = false := by
  obtain ⟨a, b⟩ := nux hx h
  refine decide_eq_false fun hf => ?_
  have := key_fin hf
  omega
/-- What the middle of two singles is to them. -/
structure MidOf (x y p : Nat) : Prop where
  fx : ru FloatKind.f32.format x < FloatKind.f32.format.infRung
  fy : ru FloatKind.f32.format y < FloatKind.f32.format.infRung
  k : key .f32 y = key .f32 x + 1
  fp : ru FloatKind.f64.format p < FloatKind.f64.format.infRung
  l : val .f32 x < val .f64 p
  g : val .f64 p < val .f32 y
theorem mid_of {x y a b s p : Nat} (fx : finB .f32 x = true) (fy : finB .f32 y = true) (hk : key .f32 y = key .f32 x + 1)
    (ha : cw .f64 a = widen (cw .f32 x)) (hb : cw .f64 b = widen (cw .f32 y)) (hs : cw .f64 s = arithR .add .f64 (cw .f64 a) (cw .f64 b)) (hp : cw .f64 p = arithR .quo .f64 (cw .f64 s) (cw .f64 4611686018427387904)) : MidOf x y p := by
  obtain ⟨a1, a2, a3⟩ := mid_facts (fin_of fx) (fin_of fy) hk ha hb hs hp
  exact ⟨fin_of fx, fin_of fy, hk, a1, a2, a3⟩
theorem MidOf.mid {x y p : Nat} (h : MidOf x y p) : Mid p := ⟨h.fp, ⟨x, h.fx, Rat.le_of_lt h.l⟩, ⟨y, h.fy, Rat.le_of_lt h.g⟩⟩
theorem MidOf.down {x y p d : Nat} (h : MidOf x y p) (hd : RdR p d) : (FloatKind.f32.format.order d x == some .eq) = true := by
  rw [eq_key (Nat.le_of_lt hd.1) (Nat.le_of_lt h.fx) (rd_here h.fx h.k h.l h.g hd)]; rfl
theorem MidOf.up {x y p d : Nat} (h : MidOf x y p) (hd : RuR p d) : (FloatKind.f32.format.order d y == some .eq) = true := by
  rw [eq_key (Nat.le_of_lt hd.1) (Nat.le_of_lt h.fy) (ru_here h.fy h.k h.l h.g hd)]; rfl
theorem MidOf.lo {x y p r : Nat} (h : MidOf x y p) (hr : cw .f64 r = widen (cw .f32 x)) : (FloatKind.f64.format.order r p == some .lt) = true := by
  obtain ⟨a, b, _⟩ := widen_val h.fx hr
  rw [ord_lt_val a h.fp, b]
  exact decide_eq_true h.l
theorem MidOf.hi {x y p r : Nat} (h : MidOf x y p) (hr : cw .f64 r = widen (cw .f32 y)) : (FloatKind.f64.format.order p r == some .lt) = true := by
  obtain ⟨a, b, _⟩ := widen_val h.fy hr
  rw [ord_lt_val h.fp a, b]
  exact decide_eq_true h.g
theorem nan_cw {x y : Nat} (hx : FloatKind.f32.format.infRung < ru FloatKind.f32.format x) (h : NuR x y) : cw .f32 x = cw .f32 y := by
  rcases h with ⟨_, h2⟩ | ⟨h1, _⟩ | ⟨h1, _⟩
  · rw [cw_none .f32 hx, cw_none .f32 h2]
  · have : ru FloatKind.f32.format x = FloatKind.f32.format.infRung := by rw [h1]; decide
    omega
  · omega
theorem inf_cw {x y : Nat} (hx : x = 2139095040) (h : NuR x y) : cw .f32 x = cw .f32 y := by
  rcases h with ⟨h1, _⟩ | ⟨h1, h2⟩ | ⟨_, h1, _⟩
  · have : ru FloatKind.f32.format x = FloatKind.f32.format.infRung := by rw [hx]; decide
    omega
  · rw [h1, h2]
  · exact absurd hx h1

set_option maxRecDepth 100000 in
set_option maxHeartbeats 4000000 in
theorem walk_small (A : Option Addr) (len cap : Nat) (w : World) (h : len ≤ 1048576) (hlen : len ≤ maxLen) (hrow : RowOk w.heap.size w A len) :
    Calls Try.prog 4 #[.slice A len cap] w fun en w' => en = .returned (.bool true) ∧ Below w.heap.size w w' := by
  have h' : ¬ (1048576 : Int) < (len : Int) := by omega
  go_enter Try.func4, Try.ntmps4
  go_wp2_with (first | (go_at_call 18; (with_reducible refine (big_any _ _ _ _).mono ?_); rintro en w9 ⟨rfl, hw9⟩; have hw9x := hw9.symm; clear hw9; subst hw9x) | (go_at_call 19; (with_reducible refine (drawSingle_any _ _ _ _ hlen (hrow.more (by repeat (first | exact Below.refl _ _ | assumption | refine bl_drewN ?_ _ | refine bl_drew ?_ | refine bl_alloc ?_ _ | refine bl_set ?_ (by first | (simp; done) | (simp; omega) | omega | (simp [World.setCell]; done) | (simp [World.setCell]; omega)) _ | refine bl_call ?_ (by assumption))) (by omega))).mono ?_); rintro en w1 ⟨x, rfl, hx, hb1⟩; have HX := Lib.hid hx; clear hx; have HB1 := Lib.hid hb1; clear hb1))
  rcases Nat.lt_or_ge FloatKind.f32.format.infRung (ru FloatKind.f32.format x) with hN | hN
  · have hxx : (FloatKind.f32.format.order x x != some .eq) = true := by rw [order_nan_left .f32 hN]; rfl
    have HNN := Lib.hid hN
    clear hN
    go_wp2_with (first | (go_at_call 20; (with_reducible refine (nextUpI_any _ _ HX.out).mono ?_); rintro e w2 ⟨y, n2, rfl, hy, hn, rfl⟩; have HY := Lib.hid hy; have HN := Lib.hid hn; clear hy hn; have HC : Hid (cw .f32 x = cw .f32 y) := Lib.hid (nan_cw HNN.out HN.out)) | (go_at_call 21; (with_reducible refine (same32_same _ _ _ HC.out).mono ?_); rintro en w4 ⟨rfl, n4, rfl⟩))
    go_ret
    have hb1 := HB1.out
    exact ⟨rfl, by repeat (first | exact Below.refl _ _ | assumption | refine bl_drewN ?_ _ | refine bl_drew ?_ | refine bl_alloc ?_ _ | refine bl_set ?_ (by first | (simp; done) | (simp; omega) | omega | (simp [World.setCell]; done) | (simp [World.setCell]; omega)) _ | refine bl_call ?_ (by assumption))⟩
  have hxx : (FloatKind.f32.format.order x x != some .eq) = false := by rw [bne, order_self hN]; rfl
  by_cases hi : x = 2139095040
  · have HI := Lib.hid hi
    have hg : (FloatKind.f32.format.order x 0 == some .gt) = true := by rw [hi]; decide
    have HFX : Hid (finB .f32 x = false) := Lib.hid (by rw [hi]; decide)
    clear hN hi
    go_wp2_with (first | (go_at_call 20; (with_reducible refine (nextUpI_any _ _ HX.out).mono ?_); rintro e w2 ⟨y, n2, rfl, hy, hn, rfl⟩; have HY := Lib.hid hy; have HN := Lib.hid hn; clear hy hn; have HC : Hid (cw .f32 x = cw .f32 y) := Lib.hid (inf_cw HI.out HN.out)) | (refine wpl_farith 18 rfl rfl rfl rfl rfl rfl ?_; intro r18 n18 hr18; have hq18 : (FloatKind.f32.format.order r18 0 != some .eq) = !false := fine32_ne HFX.out hr18.out.1) | (go_at_call 21; (with_reducible refine (same32_same _ _ _ HC.out).mono ?_); rintro en w4 ⟨rfl, n4, rfl⟩))
    go_ret
    have hb1 := HB1.out
    exact ⟨rfl, by repeat (first | exact Below.refl _ _ | assumption | refine bl_drewN ?_ _ | refine bl_drew ?_ | refine bl_alloc ?_ _ | refine bl_set ?_ (by first | (simp; done) | (simp; omega) | omega | (simp [World.setCell]; done) | (simp [World.setCell]; omega)) _ | refine bl_call ?_ (by assumption))⟩
  have HNX : Hid (NotX x) := Lib.hid ⟨hN, hi⟩
  cases hf : finB .f32 x
  · have HFX := Lib.hid hf
    have hkx : key .f32 x = -2139095040 := by
      have h2 : FloatKind.f32.format.infRung ≤ ru FloatKind.f32.format x := by simpa [finB] using hf
      rcases word_cases HX.out with ⟨s, e⟩ | ⟨s, e⟩
      · rw [i32] at h2 hN; omega
      · rw [i32] at h2 hN; unfold key; rw [s]; simp; omega
    have hg : (FloatKind.f32.format.order x 0 == some .gt) = false := by
      have k0 : key .f32 0 = 0 := by decide
      rw [ord_gt .f32 hN (by decide), hkx, k0]; decide
    clear hN hi hf hkx
    go_wp2_with (first | (go_at_call 20; (with_reducible refine (nextUpI_any _ _ HX.out).mono ?_); rintro e w2 ⟨y, n2, rfl, hy, hn, rfl⟩; have HY := Lib.hid hy; have HN := Lib.hid hn; clear hy hn; have hgt : (FloatKind.f32.format.order y x == some .gt) = true := up_gt HNX.out HN.out) | (refine wpl_farith 18 rfl rfl rfl rfl rfl rfl ?_; intro r18 n18 hr18; have hq18 : (FloatKind.f32.format.order r18 0 != some .eq) = !false := fine32_ne HFX.out hr18.out.1) | (refine wpl_farith 40 rfl rfl rfl rfl rfl rfl ?_; intro r40 n40 hr40; have hq40 : (FloatKind.f32.format.order r40 0 != some .eq) = !false := fine32_ne HFX.out hr40.out.1) | (go_at_call 22; (with_reducible refine (nextDownI_any _ _ HY.out).mono ?_); rintro e w3 ⟨d, n3, rfl, hd, hnd, rfl⟩; have hdx : (FloatKind.f32.format.order d x != some .eq) = false := down_ne HNX.out HN.out hnd; clear hd hnd))
    go_ret
    have hb1 := HB1.out
    exact ⟨rfl, by repeat (first | exact Below.refl _ _ | assumption | refine bl_drewN ?_ _ | refine bl_drew ?_ | refine bl_alloc ?_ _ | refine bl_set ?_ (by first | (simp; done) | (simp; omega) | omega | (simp [World.setCell]; done) | (simp [World.setCell]; omega)) _ | refine bl_call ?_ (by assumption))⟩
  · have HFX := Lib.hid hf
    have kf := key_fin (fin_of hf)
    by_cases hk : key .f32 x = 2139095039
    · have HK := Lib.hid hk
      clear hN hi hf hk kf
      go_wp2_with (first | (go_at_call 20; (with_reducible refine (nextUpI_any _ _ HX.out).mono ?_); rintro e w2 ⟨y, n2, rfl, hy, hn, rfl⟩; have HY := Lib.hid hy; have HN := Lib.hid hn; clear hy hn; have hgt : (FloatKind.f32.format.order y x == some .gt) = true := up_gt HNX.out HN.out; have HFY : Hid (finB .f32 y = false) := Lib.hid (fy_false HNX.out HK.out HN.out)) | (refine wpl_farith 18 rfl rfl rfl rfl rfl rfl ?_; intro r18 n18 hr18; have hq18 : (FloatKind.f32.format.order r18 0 != some .eq) = !true := fine32_ne HFX.out hr18.out.1) | (refine wpl_farith 40 rfl rfl rfl rfl rfl rfl ?_; intro r40 n40 hr40; have hq40 : (FloatKind.f32.format.order r40 0 != some .eq) = !true := fine32_ne HFX.out hr40.out.1) | (refine wpl_farith 45 rfl rfl rfl rfl rfl rfl ?_; intro r45 n45 hr45; have hq45 : (FloatKind.f32.format.order r45 0 != some .eq) = !false := fine32_ne HFY.out hr45.out.1) | (go_at_call 22; (with_reducible refine (nextDownI_any _ _ HY.out).mono ?_); rintro e w3 ⟨d, n3, rfl, hd, hnd, rfl⟩; have hdx : (FloatKind.f32.format.order d x != some .eq) = false := down_ne HNX.out HN.out hnd; clear hd hnd))
      go_ret
      have hb1 := HB1.out
      exact ⟨rfl, by repeat (first | exact Below.refl _ _ | assumption | refine bl_drewN ?_ _ | refine bl_drew ?_ | refine bl_alloc ?_ _ | refine bl_set ?_ (by first | (simp; done) | (simp; omega) | omega | (simp [World.setCell]; done) | (simp [World.setCell]; omega)) _ | refine bl_call ?_ (by assumption))⟩
    · have HK : Hid (finB .f32 x = true ∧ key .f32 x < 2139095039) := Lib.hid ⟨hf, by omega⟩
      clear hN hi hf hk kf
      go_wp2_with (first | (go_at_call 20; (with_reducible refine (nextUpI_any _ _ HX.out).mono ?_); rintro e w2 ⟨y, n2, rfl, hy, hn, rfl⟩; have HY := Lib.hid hy; have HN := Lib.hid hn; clear hy hn; have hgt : (FloatKind.f32.format.order y x == some .gt) = true := up_gt HNX.out HN.out; have HFY : Hid (finB .f32 y = true) := Lib.hid (fy_true HNX.out HK.out HN.out)) | (refine wpl_farith 18 rfl rfl rfl rfl rfl rfl ?_; intro r18 n18 hr18; have hq18 : (FloatKind.f32.format.order r18 0 != some .eq) = !true := fine32_ne HFX.out hr18.out.1) | (refine wpl_farith 40 rfl rfl rfl rfl rfl rfl ?_; intro r40 n40 hr40; have hq40 : (FloatKind.f32.format.order r40 0 != some .eq) = !true := fine32_ne HFX.out hr40.out.1) | (refine wpl_farith 45 rfl rfl rfl rfl rfl rfl ?_; intro r45 n45 hr45; have hq45 : (FloatKind.f32.format.order r45 0 != some .eq) = !true := fine32_ne HFY.out hr45.out.1) | (go_at_call 22; (with_reducible refine (nextDownI_any _ _ HY.out).mono ?_); rintro e w3 ⟨d, n3, rfl, hd, hnd, rfl⟩; have hdx : (FloatKind.f32.format.order d x != some .eq) = false := down_ne HNX.out HN.out hnd; clear hd hnd) | (refine wpl_widen 49 Try.underlying24 Try.underlying39 rfl rfl rfl rfl ?_; intro r49 n49 hr49) | (refine wpl_widen 51 Try.underlying24 Try.underlying39 rfl rfl rfl rfl ?_; intro r51 n51 hr51) | (refine wpl_farith 52 rfl rfl rfl rfl rfl rfl ?_; intro r52 n52 hr52) | (refine wpl_farith 53 rfl rfl rfl rfl rfl rfl ?_; intro p n53 hr53; have HM : Hid (MidOf x y p) := Lib.hid (mid_of HFX.out HFY.out (up_key (fin_of HFX.out) HN.out).2 hr49.out.1 hr51.out.1 hr52.out.1 hr53.out.1)) | (go_at_call 23; (with_reducible refine (roundDownI_any _ _ HM.out.mid).mono ?_); rintro e w5 ⟨d5, n5, rfl, hd5, hr5, rfl⟩; have hq5 : (FloatKind.f32.format.order d5 x == some .eq) = true := HM.out.down hr5; clear hd5 hr5) | (go_at_call 24; (with_reducible refine (roundUpI_any _ _ HM.out.mid).mono ?_); rintro e w6 ⟨d6, n6, rfl, hd6, hr6, rfl⟩; have hq6 : (FloatKind.f32.format.order d6 y == some .eq) = true := HM.out.up hr6; clear hd6 hr6) | (refine wpl_widen 66 Try.underlying24 Try.underlying39 rfl rfl rfl rfl ?_; intro r66 n66 hr66; have hq66 : (FloatKind.f64.format.order r66 p == some .lt) = true := HM.out.lo hr66.out.1) | (refine wpl_widen 73 Try.underlying24 Try.underlying39 rfl rfl rfl rfl ?_; intro r73 n73 hr73; have hq73 : (FloatKind.f64.format.order p r73 == some .lt) = true := HM.out.hi hr73.out.1))
      go_ret
      have hb1 := HB1.out
      exact ⟨rfl, by repeat (first | exact Below.refl _ _ | assumption | refine bl_drewN ?_ _ | refine bl_drew ?_ | refine bl_alloc ?_ _ | refine bl_set ?_ (by first | (simp; done) | (simp; omega) | omega | (simp [World.setCell]; done) | (simp [World.setCell]; omega)) _ | refine bl_call ?_ (by assumption))⟩
theorem walk (A : Option Addr) (len cap : Nat) (w : World) (hlen : len ≤ maxLen) (hrow : RowOk w.heap.size w A len) :
    Calls Try.prog 4 #[.slice A len cap] w fun en w' => en = .returned (.bool true) ∧ Below w.heap.size w w' := by
  rcases Nat.lt_or_ge 1048576 len with h | h
  · exact walk_big A len cap w h
  · exact walk_small A len cap w h hlen hrow

set_option maxRecDepth 100000 in
theorem lifted (os : Os) (started : os.Started) (H : Type) (enc : TypeId × Value → H) :
    ReturnsInHanded {} Try.checked os 4 .any (Rows.fnNeighborsSpec.pre6 enc Try.prog Try.f4 Rows.fnNeighborsRow.domain false) (Rows.fnNeighborsSpec.post enc Try.prog Try.f4 false true false false) := by
  refine returnsInHanded_of_change (C := Try.checked) own started (by kernel_rfl) Try.func4
    (ChangeSpec.witness6 (enc := enc) (C := Try.checked) false ⟨#[], #[.slice none 0 0], []⟩ 8 (by kernel_rfl) (by kernel_rfl) (by kernel_rfl) (by kernel_rfl)) ?_
  intro W base args ds gs before hval0 hW hcnd _
  have hval : ∀ (j : Nat) t v, Try.f4.params[j]? = some t → args[j]? = some v → Value.okWide Try.prog W .any base t v := hval0
  have hW' := hW
  obtain ⟨p, q, hA0, hV, rfl, hfz, hnd⟩ := hW
  have hA : DataW.TrodAll enc Try.prog W 0 (fun _ => true) true Try.f4.params.toList args.toList ds p := hA0
  rw [Try.params4] at hA hval
  obtain ⟨v0, vs0, d0, ds0, p0, q0, hargs, rfl, rfl, h0, r0⟩ := trodAll_cons hA
  obtain ⟨rfl, rfl, rfl⟩ := trodAll_nil r0
  obtain rfl : args = #[v0] := by cases args; simp_all
  obtain ⟨rfl, rfl⟩ := trodVars_none hV
  obtain ⟨a0, len0, cap0, rfl⟩ := okWide_slice Try.underlying34 (hval 0 34 v0 rfl rfl)
  have k0 := h0
  have lt0 : ∀ x ∈ p0, x.block < W.heap.size := by obtain ⟨m, hm⟩ := k0; exact DataW.trod_lt m _ _ _ hm
  obtain ⟨hl, hr⟩ : len0 ≤ maxLen ∧ RowOk W.heap.size W a0 len0 := by
    obtain ⟨fuel, hf⟩ := h0
    rcases open_ints Try.underlying34 Try.underlying5 (by kernel_rfl) hf with ⟨hcs, _⟩ | ⟨x, l, c, zs, hcs, _, hl, hm, hz, _, hcell, hwz⟩
    · simp [Value.cells] at hcs
      obtain ⟨rfl, rfl, rfl⟩ := hcs
      exact row_of (zs := []) (.inl ⟨rfl, rfl, rfl, rfl⟩)
    · simp [Value.cells] at hcs
      obtain ⟨rfl, rfl, rfl⟩ := hcs
      exact row_of (.inr ⟨_, rfl, hl, hm, by simpa using hz, hcell, hwz⟩)
  clear hA0 hval0
  refine (walk a0 len0 cap0 W hl hr).mono fun e W' ⟨he, bel⟩ => ?_
  subst he
  exact ⟨_, rfl, _, _, _, [], _, [], hW', trodAll_mk1 (shut_bool Try.underlying4 _), (trodAll_cons_mk (Below.trod laidOut (by kernel_rfl) (of_decide_eq_true (by kernel_rfl)) k0 bel lt0) trodAll_mk0), rfl, bel.frame _, fun h => by cases h⟩

theorem proved : Rows.FnNeighborsSaid :=
  OpenClaim.holds_of_wide 4 Try.f4 rfl rfl rfl rfl rfl rfl rfl ⟨rfl, rfl, rfl, rfl, rfl⟩ rfl rfl rfl rfl rfl (by kernel_rfl) Try.func4 (by kernel_rfl)
    (of_decide_eq_true (by kernel_rfl)) (by unfold Func.isWrapper; first | (rw [if_pos (by decide +kernel)]; kernel_rfl) | (rw [if_neg (by decide +kernel)]; exact ⟨rfl, rfl⟩))
    (fun os started H enc _ => lifted os started H enc)
#print axioms proved
end Go.Proofs.Ytldcciipicnooaa.fnNeighbors
