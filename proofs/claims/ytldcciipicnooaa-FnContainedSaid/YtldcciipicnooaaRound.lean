/- Rounding down and up to singles, of the program. -/
import Derived.Test.YtldcciipicnooaaNext
namespace Go.Proofs.Ytldcciipicnooaa
open Go.RowKit
attribute [local go_sem] run_neg_float run_neg_complex

/-- Rounding to the nearest single keeps the order. -/
theorem narrow_mono {s : Bool} {m : Nat} {q : Int} {z : Nat} (_hz : ru FloatKind.f32.format z < FloatKind.f32.format.infRung) :
    (val .f32 z ≤ sv s (vOf m q) → key .f32 z ≤ (if s then -(rungOf FloatKind.f32.format m q : Int) else (rungOf FloatKind.f32.format m q : Int))) ∧
    (sv s (vOf m q) ≤ val .f32 z → (if s then -(rungOf FloatKind.f32.format m q : Int) else (rungOf FloatKind.f32.format m q : Int)) ≤ key .f32 z) := by
  have hv := vOf_nonneg m q
  have hr := rval_nonneg FloatKind.f32.format (ru FloatKind.f32.format z)
  have h0 : rval FloatKind.f32.format (ru FloatKind.f32.format z) ≤ 0 → ru FloatKind.f32.format z = 0 := fun h => by
    rcases Nat.eq_zero_or_pos (ru FloatKind.f32.format z) with h1 | h1
    · exact h1
    · have := rval_pos FloatKind.f32.format h1
      grind
  have hR0 : vOf m q ≤ 0 → rungOf FloatKind.f32.format m q = 0 := fun h => rung_zero _ (by grind)
  unfold val key sv
  cases sg FloatKind.f32.format z <;> cases s <;> simp only [Bool.false_eq_true, if_false, if_true]
  · exact ⟨fun h => by have := le_rung FloatKind.f32.format h; omega, fun h => by have := rung_le FloatKind.f32.format h; omega⟩
  · exact ⟨fun h => by have a := h0 (by grind); have b := hR0 (by grind); omega, fun _ => by omega⟩
  · exact ⟨fun _ => by omega, fun h => by have a := h0 (by grind); have b := hR0 (by grind); omega⟩
  · exact ⟨fun h => by have := rung_le FloatKind.f32.format (m := m) (p := q) (r := ru FloatKind.f32.format z) (by grind); omega, fun h => by have := le_rung FloatKind.f32.format (m := m) (p := q) (r := ru FloatKind.f32.format z) (by grind); omega⟩

theorem key_fin {z : Nat} (h : ru FloatKind.f32.format z < FloatKind.f32.format.infRung) : -(2139095040 : Int) < key .f32 z ∧ key .f32 z < 2139095040 := by
  rw [i32] at h
  unfold key
  cases sg FloatKind.f32.format z <;> simp <;> omega
theorem fin_key {z : Nat} (h : ru FloatKind.f32.format z ≤ FloatKind.f32.format.infRung) (h1 : -(2139095040 : Int) < key .f32 z) (h2 : key .f32 z < 2139095040) : ru FloatKind.f32.format z < FloatKind.f32.format.infRung := by
  rw [i32] at h ⊢
  unfold key at h1 h2
  cases hs : sg FloatKind.f32.format z
  · rw [hs] at h2; simp at h2; omega
  · rw [hs] at h1; simp at h1; omega

/-- A double between two singles, narrowed. -/
def Mid (p : Nat) : Prop := ru FloatKind.f64.format p < FloatKind.f64.format.infRung ∧ (∃ z, ru FloatKind.f32.format z < FloatKind.f32.format.infRung ∧ val .f32 z ≤ val .f64 p) ∧ ∃ z, ru FloatKind.f32.format z < FloatKind.f32.format.infRung ∧ val .f64 p ≤ val .f32 z
theorem narrow_mid {p y : Nat} (H : Mid p) (hy : Narrow (cw .f64 p) (cw .f32 y)) : ru FloatKind.f32.format y < FloatKind.f32.format.infRung ∧
    ∀ z, ru FloatKind.f32.format z < FloatKind.f32.format.infRung → (val .f32 z ≤ val .f64 p → key .f32 z ≤ key .f32 y) ∧ (val .f64 p ≤ val .f32 z → key .f32 y ≤ key .f32 z) := by
  obtain ⟨hp, ⟨a, ha, hav⟩, ⟨b, hb, hbv⟩⟩ := H
  obtain ⟨m, q, e, v⟩ := read_fin FloatKind.f64.format hp
  have hval : val .f64 p = sv (sg FloatKind.f64.format p) (vOf m q) := by rw [v]; rfl
  rw [hval] at hav hbv ⊢
  generalize sg FloatKind.f64.format p = s at *
  have ka := (narrow_mono (s := s) (m := m) (q := q) ha).1 hav
  have kb := (narrow_mono (s := s) (m := m) (q := q) hb).2 hbv
  have fa := key_fin ha
  have fb := key_fin hb
  have hR : rungOf FloatKind.f32.format m q < FloatKind.f32.format.infRung := by
    rw [i32]
    cases s <;> simp only [Bool.false_eq_true, if_false, if_true] at ka kb <;> omega
  rw [cw_some .f64 (Nat.le_of_lt hp)] at hy
  simp only [Narrow, e] at hy
  have hye := cw_out (hy hR)
  have hry : ru FloatKind.f32.format y = rungOf FloatKind.f32.format m q := by rw [hye, ru_write]; omega
  have hsy : sg FloatKind.f32.format y = s := by rw [hye, sg_write]
  have hky : key .f32 y = if s then -(rungOf FloatKind.f32.format m q : Int) else (rungOf FloatKind.f32.format m q : Int) := by unfold key; rw [hry, hsy]
  refine ⟨by rw [hry]; exact hR, fun z hz => ?_⟩
  rw [hky]
  exact narrow_mono hz

/-- The greatest single that is at most p; the least one that is at least p. -/
def RdR (p y : Nat) : Prop := ru FloatKind.f32.format y < FloatKind.f32.format.infRung ∧ val .f32 y ≤ val .f64 p ∧ ∀ z, ru FloatKind.f32.format z < FloatKind.f32.format.infRung → val .f32 z ≤ val .f64 p → key .f32 z ≤ key .f32 y
def RuR (p y : Nat) : Prop := ru FloatKind.f32.format y < FloatKind.f32.format.infRung ∧ val .f64 p ≤ val .f32 y ∧ ∀ z, ru FloatKind.f32.format z < FloatKind.f32.format.infRung → val .f64 p ≤ val .f32 z → key .f32 y ≤ key .f32 z

theorem widen_val {x r : Nat} (hx : ru FloatKind.f32.format x < FloatKind.f32.format.infRung) (hr : cw .f64 r = widen (cw .f32 x)) : ru FloatKind.f64.format r < FloatKind.f64.format.infRung ∧ val .f64 r = val .f32 x ∧ sg FloatKind.f64.format r = sg FloatKind.f32.format x := by
  rcases widen_cases hr with ⟨h1, _⟩ | ⟨h1, _⟩ | ⟨_, h2, h3, h4⟩
  · omega
  · omega
  · exact ⟨h2, h4, h3⟩
theorem val_lt_of {k : FloatKind} {x y : Nat} (h : ¬ val k x ≤ val k y) : val k y < val k x := Rat.not_le.1 h

theorem key_neg' (x : Nat) : key .f32 (Op.negFloat .f32 x) = -key .f32 x := by
  unfold key; rw [sg_neg', ru_neg']; cases sg FloatKind.f32.format x <;> simp
theorem down_key {x y : Nat} (hx : ru FloatKind.f32.format x < FloatKind.f32.format.infRung) (h : NuR (Op.negFloat .f32 x) (Op.negFloat .f32 y)) : ru FloatKind.f32.format y ≤ FloatKind.f32.format.infRung ∧ key .f32 y = key .f32 x - 1 := by
  rcases h with ⟨h1, _⟩ | ⟨h1, _⟩ | ⟨_, _, h3, h4⟩
  · rw [ru_neg'] at h1; omega
  · have : ru FloatKind.f32.format (Op.negFloat .f32 x) = FloatKind.f32.format.infRung := by rw [h1]; decide
    rw [ru_neg'] at this; omega
  · rw [ru_neg'] at h3
    rw [key_neg', key_neg'] at h4
    exact ⟨h3, by omega⟩
theorem up_key {x y : Nat} (hx : ru FloatKind.f32.format x < FloatKind.f32.format.infRung) (h : NuR x y) : ru FloatKind.f32.format y ≤ FloatKind.f32.format.infRung ∧ key .f32 y = key .f32 x + 1 := by
  rcases h with ⟨h1, _⟩ | ⟨h1, _⟩ | ⟨_, _, h3, h4⟩
  · omega
  · have : ru FloatKind.f32.format x = FloatKind.f32.format.infRung := by rw [h1]; decide
    omega
  · exact ⟨h3, h4⟩
theorem ord_gt_val {k : FloatKind} {x y : Nat} (hx : ru k.format x < k.format.infRung) (hy : ru k.format y < k.format.infRung) : (k.format.order x y == some .gt) = decide (val k y < val k x) := by
  rw [ord_gt k (Nat.le_of_lt hx) (Nat.le_of_lt hy), decide_eq_decide]; exact (key_val_lt k y x).symm
theorem ord_lt_val {k : FloatKind} {x y : Nat} (hx : ru k.format x < k.format.infRung) (hy : ru k.format y < k.format.infRung) : (k.format.order x y == some .lt) = decide (val k x < val k y) := by
  rw [ord_lt k (Nat.le_of_lt hx) (Nat.le_of_lt hy), decide_eq_decide]; exact (key_val_lt k x y).symm

theorem rd_keep {p y r : Nat} (H : Mid p) (hy : Narrow (cw .f64 p) (cw .f32 y)) (hr : cw .f64 r = widen (cw .f32 y)) (ho : (FloatKind.f64.format.order r p == some .gt) = false) : RdR p y := by
  obtain ⟨h1, h2⟩ := narrow_mid H hy
  obtain ⟨w1, w2, _⟩ := widen_val h1 hr
  rw [ord_gt_val w1 H.1, w2] at ho
  exact ⟨h1, Rat.not_lt.1 (by simpa using ho), fun z hz => (h2 z hz).1⟩
theorem rd_step {p y r d : Nat} (H : Mid p) (hy : Narrow (cw .f64 p) (cw .f32 y)) (hr : cw .f64 r = widen (cw .f32 y)) (ho : (FloatKind.f64.format.order r p == some .gt) = true) (hd : NuR (Op.negFloat .f32 y) (Op.negFloat .f32 d)) : RdR p d := by
  obtain ⟨h1, h2⟩ := narrow_mid H hy
  obtain ⟨w1, w2, _⟩ := widen_val h1 hr
  rw [ord_gt_val w1 H.1, w2] at ho
  have ho' : val .f64 p < val .f32 y := by simpa using ho
  obtain ⟨d1, d2⟩ := down_key h1 hd
  have hmax : ∀ z, ru FloatKind.f32.format z < FloatKind.f32.format.infRung → val .f32 z ≤ val .f64 p → key .f32 z ≤ key .f32 d := fun z hz hzp => by
    have := (key_val_lt .f32 z y).1 (by grind)
    omega
  obtain ⟨a, ha, hav⟩ := H.2.1
  have ka := hmax a ha hav
  have fa := key_fin ha
  have fy := key_fin h1
  have hfd := fin_key d1 (by omega) (by omega)
  refine ⟨hfd, ?_, hmax⟩
  rcases Rat.le_total (a := val .f32 d) (b := val .f64 p) with h | h
  · exact h
  · have := (h2 d hfd).2 h
    omega
theorem ru_keep {p y r : Nat} (H : Mid p) (hy : Narrow (cw .f64 p) (cw .f32 y)) (hr : cw .f64 r = widen (cw .f32 y)) (ho : (FloatKind.f64.format.order r p == some .lt) = false) : RuR p y := by
  obtain ⟨h1, h2⟩ := narrow_mid H hy
  obtain ⟨w1, w2, _⟩ := widen_val h1 hr
  rw [ord_lt_val w1 H.1, w2] at ho
  exact ⟨h1, Rat.not_lt.1 (by simpa using ho), fun z hz => (h2 z hz).2⟩
theorem ru_step {p y r d : Nat} (H : Mid p) (hy : Narrow (cw .f64 p) (cw .f32 y)) (hr : cw .f64 r = widen (cw .f32 y)) (ho : (FloatKind.f64.format.order r p == some .lt) = true) (hd : NuR y d) : RuR p d := by
  obtain ⟨h1, h2⟩ := narrow_mid H hy
  obtain ⟨w1, w2, _⟩ := widen_val h1 hr
  rw [ord_lt_val w1 H.1, w2] at ho
  have ho' : val .f32 y < val .f64 p := by simpa using ho
  obtain ⟨d1, d2⟩ := up_key h1 hd
  have hmax : ∀ z, ru FloatKind.f32.format z < FloatKind.f32.format.infRung → val .f64 p ≤ val .f32 z → key .f32 d ≤ key .f32 z := fun z hz hzp => by
    have := (key_val_lt .f32 y z).1 (by grind)
    omega
  obtain ⟨a, ha, hav⟩ := H.2.2
  have ka := hmax a ha hav
  have fa := key_fin ha
  have fy := key_fin h1
  have hfd := fin_key d1 (by omega) (by omega)
  refine ⟨hfd, ?_, hmax⟩
  rcases Rat.le_total (a := val .f64 p) (b := val .f32 d) with h | h
  · exact h
  · have := (h2 d hfd).1 h
    omega

def RdEnd (p : Nat) (w : World) (en : Ending) (w' : World) : Prop := ∃ y n, en = .returned (.float .f32 y) ∧ y < 2 ^ 32 ∧ RdR p y ∧ w' = w.drewN n
def RuEnd (p : Nat) (w : World) (en : Ending) (w' : World) : Prop := ∃ y n, en = .returned (.float .f32 y) ∧ y < 2 ^ 32 ∧ RuR p y ∧ w' = w.drewN n
set_option maxRecDepth 100000 in
theorem roundDownI_any (p : Nat) (w : World) (h : Mid p) : Calls Try.prog 23 #[.float .f64 p] w (RdEnd p w) := by
  have H := Lib.hid h
  clear h
  go_enter Try.func23, Try.ntmps23
  go_wp2_with (first | (refine wpl_narrow 5 Try.underlying39 Try.underlying24 rfl rfl rfl rfl ?_; intro r1 n1 hr1) | (refine wpl_widen 7 Try.underlying24 Try.underlying39 rfl rfl rfl rfl ?_; intro r2 n2 hr2) | (go_at_call 22; (with_reducible refine (nextDownI_any _ _ hr1.out.2).mono ?_); rintro e w2 ⟨y, n3, rfl, hy, hn, rfl⟩; have HY := Lib.hid hy; have HN := Lib.hid hn; clear hy hn))
  · go_ret
    rename_i ho
    exact ⟨_, _, rfl, HY.out, rd_step H.out hr1.out.1 hr2.out.1 (by first | exact ho | simpa using ho) HN.out, rfl⟩
  · go_ret
    rename_i ho
    exact ⟨_, _, rfl, hr1.out.2, rd_keep H.out hr1.out.1 hr2.out.1 (by first | exact ho | simpa using ho), rfl⟩
set_option maxRecDepth 100000 in
theorem roundUpI_any (p : Nat) (w : World) (h : Mid p) : Calls Try.prog 24 #[.float .f64 p] w (RuEnd p w) := by
  have H := Lib.hid h
  clear h
  go_enter Try.func24, Try.ntmps24
  go_wp2_with (first | (refine wpl_narrow 5 Try.underlying39 Try.underlying24 rfl rfl rfl rfl ?_; intro r1 n1 hr1) | (refine wpl_widen 7 Try.underlying24 Try.underlying39 rfl rfl rfl rfl ?_; intro r2 n2 hr2) | (go_at_call 20; (with_reducible refine (nextUpI_any _ _ hr1.out.2).mono ?_); rintro e w2 ⟨y, n3, rfl, hy, hn, rfl⟩; have HY := Lib.hid hy; have HN := Lib.hid hn; clear hy hn))
  · go_ret
    rename_i ho
    exact ⟨_, _, rfl, HY.out, ru_step H.out hr1.out.1 hr2.out.1 (by first | exact ho | simpa using ho) HN.out, rfl⟩
  · go_ret
    rename_i ho
    exact ⟨_, _, rfl, hr1.out.2, ru_keep H.out hr1.out.1 hr2.out.1 (by first | exact ho | simpa using ho), rfl⟩
end Go.Proofs.Ytldcciipicnooaa
