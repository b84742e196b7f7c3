/- The draws of spans: they are right, finite and of no great amount. -/
import Derived.Test.YtldcciipicnooaaSpan
import Derived.Test.YtldcciipicnooaaSign
namespace Go.Proofs.Ytldcciipicnooaa
open Go.RowKit
attribute [local go_sem] run_neg_float run_neg_complex run_store_float run_store_complex

def okQ (n m : Int) : Bool := match floatBits .quo .f32 (floatOfInt .f32 n) (floatOfInt .f32 m) with
  | some r => decide (ru FloatKind.f32.format r ≤ 1132462080)
  | none => false
def okP (n m : Int) : Bool := match floatBits .quo .f32 (floatOfInt .f32 n) (floatOfInt .f32 m) with
  | some r => decide (ru FloatKind.f32.format r ≤ 1115684864 ∧ sg FloatKind.f32.format r = false)
  | none => false
theorem mild_tab : ∀ k : Nat, k < 400 → ∀ m ∈ ([1, 1, 2, 4, 3, 10, 16] : List Int), okQ ((k : Int) - 200) m = true := by decide +kernel
theorem pos_tab : ∀ k : Nat, k < 60 → ∀ m ∈ ([1, 3, 16] : List Int), okP (k : Int) m = true := by decide +kernel
theorem quo_of {n m : Int} {r : Nat} (h : okQ n m = true) (hr : cw .f32 r = arithR .quo .f32 (cw .f32 (floatOfInt .f32 n)) (cw .f32 (floatOfInt .f32 m))) : ru FloatKind.f32.format r ≤ 1132462080 := by
  rw [floatBits_cw] at hr
  unfold okQ at h
  split at h
  · rename_i q hq
    rw [hq] at hr
    obtain rfl := cw_out hr
    exact of_decide_eq_true h
  · cases h
theorem pos_of {n m : Int} {r : Nat} (h : okP n m = true) (hr : cw .f32 r = arithR .quo .f32 (cw .f32 (floatOfInt .f32 n)) (cw .f32 (floatOfInt .f32 m))) : ru FloatKind.f32.format r ≤ 1115684864 ∧ sg FloatKind.f32.format r = false := by
  rw [floatBits_cw] at hr
  unfold okP at h
  split at h
  · rename_i q hq
    rw [hq] at hr
    obtain rfl := cw_out hr
    exact of_decide_eq_true h
  · cases h
set_option maxRecDepth 100000 in
theorem l01Mild_m (c : Nat) (w : World) (H : CurOk c w) :
    Calls Try.prog 76 #[.pointer (some ⟨c, 0, none⟩)] w fun e w' => ∃ x, e = .returned (.float .f32 x) ∧ x < 2 ^ 32 ∧ ru FloatKind.f32.format x ≤ 1132462080 ∧ CurEnd c w w' := by
  have hc := H.lt
  go_enter Try.func76, Try.ntmps76
  go_wp2_with (first | (go_at_call 57; (with_reducible refine (l01Below_i c _ 400 _ (by assumption) (by decide) (by decide) (by decide)).mono ?_); rintro e w1 ⟨k, rfl, hk0, hc1, hk1⟩; have hz1 := hc1.lt; have hk9 : (k : Int) ≤ 400 := (by omega)) | (go_at_call 73; (with_reducible refine (l01PickInt_any c _ 7 _ [1, 1, 2, 4, 3, 10, 16] _ (hc1.below (by repeat (first | exact Below.refl _ _ | assumption | refine bl_drewN ?_ _ | refine bl_drew ?_ | refine bl_alloc ?_ _ | refine bl_set ?_ (by first | (simp; done) | (simp; omega) | omega | (simp [World.setCell]; done) | (simp [World.setCell]; omega)) _ | refine bl_call ?_ (by assumption)))) (by with_unfolding_all rfl) (by decide) (by decide) (by decide) (Blk.new_at _ _ _ rfl) (by omega)).mono ?_); rintro e w2 ⟨m, hm, rfl, hc2, hk2⟩; have hz2 := hc2.lt; have HM := Lib.hid (mild_tab k hk0 m hm); clear hm) | (refine wpl_farith 11 rfl rfl rfl rfl rfl rfl ?_; intro r1 n1 hr1))
  go_ret
  exact ⟨_, rfl, hr1.out.2, quo_of HM.out hr1.out.1, hc2, by repeat (first | exact Kept.refl _ _ | assumption | refine kp_drewN ?_ _ | refine kp_alloc ?_ _ | refine kp_set ?_ _ _ | refine kp_bl ?_ (by assumption) | refine kp_call ?_ (by assumption) | refine kp_drew ?_)⟩

theorem two23 : rval FloatKind.f32.format 1258291200 = vOf 8388608 0 := (rung_at (i := 8388608) (j := 0) (r := 1258291200) (by omega) (by omega) (by omega) (by omega) (by decide)).1
theorem make_small {m e : Int} (hm : m ≤ 16777215) (he : e ≤ -1) : (makeF [43] m e).1 < 2 ^ 32 ∧ ru FloatKind.f32.format (makeF [43] m e).1 ≤ 1258291200 := by
  refine ⟨makeF_lt _ _ _, ?_⟩
  have e1 : makeF [43] m e = if ((decide (0 ≤ m) && decide (m ≤ 16777215)) && (decide (-149 ≤ e) && decide (e ≤ 127)) && mkOk m.toNat e) then (rungOf FloatKind.f32.format m.toNat e, true) else (0, false) := rfl
  rw [e1]
  split
  · rename_i h
    simp only [Bool.and_eq_true] at h
    have hk := h.2
    obtain ⟨w1, w2, w3⟩ := word32 (mkOk_rung hk)
    show ru _ (rungOf FloatKind.f32.format m.toNat e) ≤ _
    rw [w2]
    refine rung_le FloatKind.f32.format ?_
    rw [two23]
    have h1 := vOf_lt_pw (m := m.toNat) (k := 24) (p := e) (by omega)
    have h2 : pw ((24 : Nat) + e) ≤ pw 23 := pw_le (by omega)
    have h3 : vOf 8388608 0 = pw 23 := by
      have := pw_nat 23
      rw [show (23 : Int) = ((23 : Nat) : Int) by rfl, this, vOf_nat]
    grind
  · show ru _ 0 ≤ _
    rw [ru_zero]; decide

theorem val_le_key {k : FloatKind} {x y : Nat} (h : key k x ≤ key k y) : val k x ≤ val k y := by
  refine Rat.not_lt.1 fun h2 => ?_
  have := (key_val_lt k y x).1 h2
  omega
theorem key_abs {x n : Nat} (h : ru FloatKind.f32.format x ≤ n) : -(n : Int) ≤ key .f32 x ∧ key .f32 x ≤ n := by
  unfold key; cases sg FloatKind.f32.format x <;> simp <;> omega
theorem ru_of_key {x n : Nat} (h1 : -(n : Int) ≤ key .f32 x) (h2 : key .f32 x ≤ n) : ru FloatKind.f32.format x ≤ n := by
  unfold key at h1 h2; cases hs : sg FloatKind.f32.format x <;> rw [hs] at h1 h2 <;> simp at h1 h2 <;> omega

/-- A span that is right, of mild singles. -/
def SpG (a b : Nat) : Prop := Mild a ∧ Mild b ∧ key .f32 a ≤ key .f32 b
theorem two24 : rval FloatKind.f32.format 1266679808 = vOf 8388608 1 := (rung_at (i := 8388608) (j := 1) (r := 1266679808) (by omega) (by omega) (by omega) (by omega) (by decide)).1
theorem sixty4 : rval FloatKind.f32.format 1115684864 = vOf 8388608 (-17) := (rung_at (i := 8388608) (j := -17) (r := 1115684864) (by omega) (by omega) (by omega) (by omega) (by decide)).1
theorem pw_nums : vOf 8388608 0 = 8388608 ∧ vOf 8388608 1 = 16777216 ∧ vOf 8388608 (-17) = 64 := by
  refine ⟨by rw [vOf_nat]; rfl, ?_, ?_⟩
  · have := vOf_succ 8388608 0
    rw [vOf_nat] at this
    have h2 : ((8388608 : Nat) : Rat) = 8388608 := rfl
    rw [show (1 : Int) = 0 + 1 by rfl, ← this, h2]; grind
  · have := vOf_shift 64 17 (-17)
    rw [show (64 * 2 ^ 17 : Nat) = 8388608 by decide, show (-17 : Int) + ((17 : Nat) : Int) = 0 by omega, vOf_nat] at this
    exact this
theorem sum_up {a c r : Nat} (ha : ru FloatKind.f32.format a ≤ 1258291200) (hc : ru FloatKind.f32.format c ≤ 1115684864 ∧ sg FloatKind.f32.format c = false) (hl : r < 2 ^ 32) (hr : cw .f32 r = arithR .add .f32 (cw .f32 a) (cw .f32 c)) :
    ru FloatKind.f32.format r ≤ 1266679808 ∧ key .f32 a ≤ key .f32 r := by
  rw [floatBits_cw] at hr
  have fa : ru FloatKind.f32.format a < FloatKind.f32.format.infRung := by rw [i32]; omega
  have fc : ru FloatKind.f32.format c < FloatKind.f32.format.infRung := by rw [i32]; omega
  obtain ⟨s, m, p, e, v, _⟩ := sum_fin .f32 fa fc
  rw [e] at hr
  obtain ⟨n1, n2, n3⟩ := pw_nums
  have hc0 : 0 ≤ val .f32 c ∧ val .f32 c ≤ 64 := by
    unfold val
    rw [hc.2]
    have := rval_le FloatKind.f32.format hc.1
    rw [sixty4, n3] at this
    exact ⟨rval_nonneg _ _, this⟩
  have hav : val .f32 a ≤ 8388608 := by
    have h := val_le_key (k := .f32) (x := a) (y := 1258291200) (by rw [show key .f32 1258291200 = 1258291200 by decide]; exact (key_abs ha).2)
    have h2 : val .f32 1258291200 = rval FloatKind.f32.format 1258291200 := by
      obtain ⟨b1, b2⟩ := ru_lit (r := 1258291200) (by omega)
      unfold val; rw [b1, b2]; rfl
    rw [h2, two23, n1] at h
    exact h
  have h24 : val .f32 1266679808 = 16777216 := by
    obtain ⟨b1, b2⟩ := ru_lit (r := 1266679808) (by omega)
    have : val .f32 1266679808 = rval FloatKind.f32.format 1266679808 := by unfold val; rw [b1, b2]; rfl
    rw [this, two24, n2]
  have g1 := (narrow_mono (s := s) (m := m) (q := p) fa).1 (by rw [v]; grind)
  have g2 := (narrow_mono (s := s) (m := m) (q := p) (z := 1266679808) (by decide)).2 (by rw [v, h24]; grind)
  rw [show key .f32 1266679808 = 1266679808 by decide] at g2
  have ka := key_abs ha
  have hR : rungOf FloatKind.f32.format m p ≤ 1266679808 := by
    cases s <;> simp only [Bool.false_eq_true, if_false, if_true] at g1 g2 <;> omega
  have hre := cw_out hr
  have hru : ru FloatKind.f32.format r = rungOf FloatKind.f32.format m p := by
    rw [hre, ru_write, i32]; omega
  have hsg : sg FloatKind.f32.format r = s := by rw [hre, sg_write]
  refine ⟨by rw [hru]; exact hR, ?_⟩
  have : key .f32 r = if s then -(rungOf FloatKind.f32.format m p : Int) else (rungOf FloatKind.f32.format m p : Int) := by unfold key; rw [hru, hsg]
  rw [this]
  exact g1
theorem spg_sum {a c r : Nat} (ha : a < 2 ^ 32 ∧ ru FloatKind.f32.format a ≤ 1258291200) (hc : ru FloatKind.f32.format c ≤ 1115684864 ∧ sg FloatKind.f32.format c = false) (hl : r < 2 ^ 32) (hr : cw .f32 r = arithR .add .f32 (cw .f32 a) (cw .f32 c)) : SpG a r := by
  obtain ⟨h1, h2⟩ := sum_up ha.2 hc hl hr
  exact ⟨⟨ha.1, by have := ha.2; omega⟩, ⟨hl, by omega⟩, h2⟩
theorem spg_next {a b : Nat} (ha : a < 2 ^ 32 ∧ ru FloatKind.f32.format a ≤ 1258291200) (hb : b < 2 ^ 32) (hk : key .f32 b = key .f32 a + 1) : SpG a b := by
  have ka := key_abs ha.2
  exact ⟨⟨ha.1, by have := ha.2; omega⟩, ⟨hb, ru_of_key (by omega) (by omega)⟩, by omega⟩

theorem mild_of {a : Nat} (h : a < 2 ^ 32 ∧ ru FloatKind.f32.format a ≤ 1258291200) : Mild a := ⟨h.1, by have := h.2; omega⟩
theorem make_w (m e : Int) (w : World) (hm : m ≤ 16777215) (he : e ≤ -1) :
    Calls Try.prog 61 #[.string ⟨#[43]⟩, .int .i64 m, .int .i64 e] w fun en w' => ∃ v ok, en = .returned (.tuple #[.float .f32 v, .bool ok]) ∧ (v < 2 ^ 32 ∧ ru FloatKind.f32.format v ≤ 1258291200) ∧ ∃ n, w' = w.drewN n := by
  refine (makeS_any _ _ _ _).mono ?_
  rintro en w' ⟨he, n, hw⟩
  refine ⟨_, _, he, ?_, n, hw⟩
  have : (⟨#[43]⟩ : ByteArray).toList = [43] := ByteArray.toList_mk [43]
  rw [this]
  exact make_small (by omega) (by omega)
set_option maxRecDepth 100000 in
set_option maxHeartbeats 1000000 in
theorem l07Span_any (c : Nat) (w : World) (H : CurOk c w) :
    Calls Try.prog 56 #[.pointer (some ⟨c, 0, none⟩)] w fun e w' => ∃ a b, e = .returned (.agg #[.float .f32 a, .float .f32 b]) ∧ SpG a b ∧ CurEnd c w w' := by
  have hc := H.lt
  go_enter Try.func56, Try.ntmps56
  go_wp2_with (first | (go_at_call 76; (with_reducible refine (l01Mild_m c _ (H.below (by repeat (first | exact Below.refl _ _ | assumption | refine bl_drewN ?_ _ | refine bl_drew ?_ | refine bl_alloc ?_ _ | refine bl_set ?_ (by first | (simp; done) | (simp; omega) | omega | (simp [World.setCell]; done) | (simp [World.setCell]; omega)) _ | refine bl_call ?_ (by assumption))))).mono ?_); rintro e w1 ⟨a, rfl, ha1, ha2, hc1, hk1⟩; have hz1 := hc1.lt; have R1 : Blk w1 w.heap.size 26 #[.float .f32 0, .float .f32 0] := Blk.kept (Blk.new w _ _) hk1 (by omega); have HA : Hid (a < 2 ^ 32 ∧ ru FloatKind.f32.format a ≤ 1258291200) := Lib.hid ⟨ha1, Nat.le_trans ha2 (by decide)⟩; clear ha1 ha2) | (go_at_call 70; (with_reducible refine (l01Once_i c _ 3 _ (by first | assumption | exact CurOk.below (by assumption) (by repeat (first | exact Below.refl _ _ | assumption | refine bl_drewN ?_ _ | refine bl_drew ?_ | refine bl_alloc ?_ _ | refine bl_set ?_ (by first | (simp; done) | (simp; omega) | omega | (simp [World.setCell]; done) | (simp [World.setCell]; omega)) _ | refine bl_call ?_ (by assumption)))) (by decide) (by decide) (by decide)).mono ?_); rintro e w2 ⟨k2, rfl, hc2, hk2⟩; have hz2 := hc2.lt) | (go_at_call 57; (with_reducible refine (l01Below_i c _ 16777215 _ (by first | assumption | exact CurOk.below (by assumption) (by repeat (first | exact Below.refl _ _ | assumption | refine bl_drewN ?_ _ | refine bl_drew ?_ | refine bl_alloc ?_ _ | refine bl_set ?_ (by first | (simp; done) | (simp; omega) | omega | (simp [World.setCell]; done) | (simp [World.setCell]; omega)) _ | refine bl_call ?_ (by assumption)))) (by decide) (by decide) (by decide)).mono ?_); rintro e w3 ⟨k3, rfl, hk30, hcw3, hkw3⟩; have hzw3 := hcw3.lt; have hbk3 : (k3 : Int) ≤ 16777215 := (by omega)) | (go_at_call 57; (with_reducible refine (l01Below_i c _ 60 _ (by first | assumption | exact CurOk.below (by assumption) (by repeat (first | exact Below.refl _ _ | assumption | refine bl_drewN ?_ _ | refine bl_drew ?_ | refine bl_alloc ?_ _ | refine bl_set ?_ (by first | (simp; done) | (simp; omega) | omega | (simp [World.setCell]; done) | (simp [World.setCell]; omega)) _ | refine bl_call ?_ (by assumption)))) (by decide) (by decide) (by decide)).mono ?_); rintro e w6 ⟨k6, rfl, hk60, hcw6, hkw6⟩; have hzw6 := hcw6.lt; have hbk6 : (k6 : Int) ≤ 60 := (by omega)) | (go_at_call 61; (with_reducible refine (make_w _ _ _ (by omega) (by omega)).mono ?_); rintro e w' ⟨a', ok', rfl, ha', n5, rfl⟩; have HB := Lib.hid ha'; clear ha') | (go_at_call 73; (with_reducible refine (l01PickInt_any c _ 3 _ [1, 3, 16] _ (hcw6.below (by repeat (first | exact Below.refl _ _ | assumption | refine bl_drewN ?_ _ | refine bl_drew ?_ | refine bl_alloc ?_ _ | refine bl_set ?_ (by first | (simp; done) | (simp; omega) | omega | (simp [World.setCell]; done) | (simp [World.setCell]; omega)) _ | refine bl_call ?_ (by assumption)))) (by with_unfolding_all rfl) (by decide) (by decide) (by decide) (Blk.new_at _ _ _ rfl) (by omega)).mono ?_); rintro e w7 ⟨m7, hm7, rfl, hc7, hk7⟩; have hz7 := hc7.lt; have HM := Lib.hid (pos_tab k6 hk60 m7 hm7); clear hm7) | (refine wpl_farith 30 rfl rfl rfl rfl rfl rfl ?_; intro r30 n30 hr30; have HC := Lib.hid (pos_of HM.out hr30.out.1)) | (refine wpl_farith 31 rfl rfl rfl rfl rfl rfl ?_; intro r31 n31 hr31) | (go_at_call 70; (with_reducible refine (l01Once_i c _ 5 _ (by first | assumption | exact CurOk.below (by assumption) (by repeat (first | exact Below.refl _ _ | assumption | refine bl_drewN ?_ _ | refine bl_drew ?_ | refine bl_alloc ?_ _ | refine bl_set ?_ (by first | (simp; done) | (simp; omega) | omega | (simp [World.setCell]; done) | (simp [World.setCell]; omega)) _ | refine bl_call ?_ (by assumption)))) (by decide) (by decide) (by decide)).mono ?_); rintro e w8 ⟨k8, rfl, hc8, hk8⟩; have hz8 := hc8.lt; have R8 : Blk w8 w.heap.size 26 #[.float .f32 0, .float .f32 0] := (by repeat (first | exact Blk.new w _ _ | assumption | refine Blk.kept ?_ (by assumption) (by omega) | refine Blk.alloc ?_ _ | refine Blk.drewN ?_ _)); have f0 := R8.frozen 0; have f1 := R8.frozen 1; have r0 := R8.cell 0; have r1 := R8.cell 1; simp only [List.getElem?_toArray, List.getElem?_cons_zero, List.getElem?_cons_succ] at r0 r1) | (go_at_call 69; (with_reducible refine (nextUpS_mild _ _ (by first | exact mild_of HB.out | exact mild_of HA.out)).mono ?_); rintro e w9 ⟨b, rfl, hb1, hb2, hb3, n9, rfl⟩; have HN := Lib.hid (And.intro hb1 hb3); clear hb1 hb2 hb3))

  · have q0 := fun x y => (((R8.drewN n9).set_ 0 x).set_ 1 y).cell 0
    have q1 := fun x y => (((R8.drewN n9).set_ 0 x).set_ 1 y).cell 1
    simp at q0 q1
    refine bodyPost_ret (v := .agg #[.float .f32 a', .float .f32 b]) (by simp (maxDischargeDepth := 6) [results, Try.results56, go_sem, q0, q1]) rfl ⟨_, _, rfl, spg_next HB.out HN.out.1 HN.out.2, ?_, ?_⟩
    · exact ((CurOk.below hc8 (by repeat (first | exact Below.refl _ _ | assumption | refine bl_drewN ?_ _ | refine bl_drew ?_ | refine bl_alloc ?_ _ | refine bl_set ?_ (by first | (simp; done) | (simp; omega) | omega | (simp [World.setCell]; done) | (simp [World.setCell]; omega)) _ | refine bl_call ?_ (by assumption)))).far (by simp; omega) _).far (by simp; omega) _
    · exact kp_far (kp_far (by repeat (first | exact Kept.refl _ _ | assumption | refine kp_drewN ?_ _ | refine kp_alloc ?_ _ | refine kp_set ?_ _ _ | refine kp_bl ?_ (by assumption) | refine kp_call ?_ (by assumption) | refine kp_drew ?_)) (by simp) _) (by simp) _
  · have q0 := fun x y => ((R8.set_ 0 x).set_ 1 y).cell 0
    have q1 := fun x y => ((R8.set_ 0 x).set_ 1 y).cell 1
    simp at q0 q1
    refine bodyPost_ret (v := .agg #[.float .f32 a', .float .f32 r31]) (by simp (maxDischargeDepth := 6) [results, Try.results56, go_sem, q0, q1]) rfl ⟨_, _, rfl, spg_sum HB.out HC.out hr31.out.2 hr31.out.1, ?_, ?_⟩
    · exact ((CurOk.below hc8 (by repeat (first | exact Below.refl _ _ | assumption | refine bl_drewN ?_ _ | refine bl_drew ?_ | refine bl_alloc ?_ _ | refine bl_set ?_ (by first | (simp; done) | (simp; omega) | omega | (simp [World.setCell]; done) | (simp [World.setCell]; omega)) _ | refine bl_call ?_ (by assumption)))).far (by simp; omega) _).far (by simp; omega) _
    · exact kp_far (kp_far (by repeat (first | exact Kept.refl _ _ | assumption | refine kp_drewN ?_ _ | refine kp_alloc ?_ _ | refine kp_set ?_ _ _ | refine kp_bl ?_ (by assumption) | refine kp_call ?_ (by assumption) | refine kp_drew ?_)) (by simp) _) (by simp) _
  · have q0 := fun x y => (((R8.drewN n9).set_ 0 x).set_ 1 y).cell 0
    have q1 := fun x y => (((R8.drewN n9).set_ 0 x).set_ 1 y).cell 1
    simp at q0 q1
    refine bodyPost_ret (v := .agg #[.float .f32 a, .float .f32 b]) (by simp (maxDischargeDepth := 6) [results, Try.results56, go_sem, q0, q1]) rfl ⟨_, _, rfl, spg_next HA.out HN.out.1 HN.out.2, ?_, ?_⟩
    · exact ((CurOk.below hc8 (by repeat (first | exact Below.refl _ _ | assumption | refine bl_drewN ?_ _ | refine bl_drew ?_ | refine bl_alloc ?_ _ | refine bl_set ?_ (by first | (simp; done) | (simp; omega) | omega | (simp [World.setCell]; done) | (simp [World.setCell]; omega)) _ | refine bl_call ?_ (by assumption)))).far (by simp; omega) _).far (by simp; omega) _
    · exact kp_far (kp_far (by repeat (first | exact Kept.refl _ _ | assumption | refine kp_drewN ?_ _ | refine kp_alloc ?_ _ | refine kp_set ?_ _ _ | refine kp_bl ?_ (by assumption) | refine kp_call ?_ (by assumption) | refine kp_drew ?_)) (by simp) _) (by simp) _
  · have q0 := fun x y => ((R8.set_ 0 x).set_ 1 y).cell 0
    have q1 := fun x y => ((R8.set_ 0 x).set_ 1 y).cell 1
    simp at q0 q1
    refine bodyPost_ret (v := .agg #[.float .f32 a, .float .f32 r31]) (by simp (maxDischargeDepth := 6) [results, Try.results56, go_sem, q0, q1]) rfl ⟨_, _, rfl, spg_sum HA.out HC.out hr31.out.2 hr31.out.1, ?_, ?_⟩
    · exact ((CurOk.below hc8 (by repeat (first | exact Below.refl _ _ | assumption | refine bl_drewN ?_ _ | refine bl_drew ?_ | refine bl_alloc ?_ _ | refine bl_set ?_ (by first | (simp; done) | (simp; omega) | omega | (simp [World.setCell]; done) | (simp [World.setCell]; omega)) _ | refine bl_call ?_ (by assumption)))).far (by simp; omega) _).far (by simp; omega) _
    · exact kp_far (kp_far (by repeat (first | exact Kept.refl _ _ | assumption | refine kp_drewN ?_ _ | refine kp_alloc ?_ _ | refine kp_set ?_ _ _ | refine kp_bl ?_ (by assumption) | refine kp_call ?_ (by assumption) | refine kp_drew ?_)) (by simp) _) (by simp) _
end Go.Proofs.Ytldcciipicnooaa
