/- Sums, products and negatives of numbers in spans, in doubles; no program in sight. -/
import Derived.Test.YtldcciipicnooaaHull
namespace Go.Proofs.Ytldcciipicnooaa
open Go.RowKit

/-- Rounding to a double keeps the order. -/
theorem round_mono {s t : Bool} {m n : Nat} {p q : Int} (h : sv s (vOf m p) ≤ sv t (vOf n q)) :
    (if s then -(rungOf FloatKind.f64.format m p : Int) else (rungOf FloatKind.f64.format m p : Int)) ≤ (if t then -(rungOf FloatKind.f64.format n q : Int) else (rungOf FloatKind.f64.format n q : Int)) := by
  have h1 := vOf_nonneg m p
  have h2 := vOf_nonneg n q
  have z1 : vOf m p ≤ 0 → rungOf FloatKind.f64.format m p = 0 := fun h => rung_zero _ (by grind)
  have z2 : vOf n q ≤ 0 → rungOf FloatKind.f64.format n q = 0 := fun h => rung_zero _ (by grind)
  unfold sv at h
  cases s <;> cases t <;> simp only [Bool.false_eq_true, if_false, if_true] at h ⊢
  · have := rung_mono FloatKind.f64.format h; omega
  · have a := z1 (by grind); have b := z2 (by grind); omega
  · omega
  · have := rung_mono FloatKind.f64.format (m := n) (n := m) (p := q) (q := p) (by grind); omega

/-- A double of no great amount (2^62). -/
def Small (r : Nat) : Prop := ru FloatKind.f64.format r ≤ 4886405595696988160
theorem small62 : rval FloatKind.f64.format 4886405595696988160 = vOf 1 62 ∧ rungOf FloatKind.f64.format 1 62 = 4886405595696988160 := by
  have e : rungOf FloatKind.f64.format 1 62 = 4886405595696988160 := by decide +kernel
  obtain ⟨a, _⟩ := rung_fits (m := 1) (p := 62) (by omega) (by omega) (by omega)
  rw [e] at a
  exact ⟨a, e⟩
theorem Small.fin {r : Nat} (h : Small r) : ru FloatKind.f64.format r < FloatKind.f64.format.infRung := by unfold Small at h; rw [i64]; omega
theorem rval32_62 : rval FloatKind.f32.format 1585446912 = vOf 1 62 := by
  have e : rungOf FloatKind.f32.format 1 62 = 1585446912 := by decide +kernel
  have h := rval_exact FloatKind.f32.format 1 62 (by rw [b32]; omega) (by rw [l32]; omega)
  rw [e] at h
  exact h
theorem Small.mid {r : Nat} (h : Small r) : Mid r := by
  have hv := rval_le FloatKind.f64.format h
  rw [small62.1] at hv
  have h0 := rval_nonneg FloatKind.f64.format (ru FloatKind.f64.format r)
  obtain ⟨a1, a2⟩ := ru_lit (r := 1585446912) (by omega)
  have hu : val .f32 1585446912 = vOf 1 62 := by unfold val; rw [a1, a2]; exact rval32_62
  have hl : val .f32 (Op.negFloat .f32 1585446912) = -vOf 1 62 := by
    unfold val; rw [ru_neg', sg_neg', a1, a2, rval32_62]; rfl
  refine ⟨h.fin, ⟨Op.negFloat .f32 1585446912, by rw [ru_neg', a1, i32]; omega, ?_⟩, ⟨1585446912, by rw [a1, i32]; omega, ?_⟩⟩
  · rw [hl]; unfold val; split <;> grind
  · rw [hu]; unfold val; split <;> grind

/-- A rounded number of no great amount. -/
theorem round_small {k : Nat} {s : Bool} {m : Nat} {p : Int} {r : Nat} (hk : k ≤ 62) (h1 : -vOf 1 k ≤ sv s (vOf m p)) (h2 : sv s (vOf m p) ≤ vOf 1 k) (hr : cw .f64 r = some (FloatKind.f64.format.write (.number s m p))) :
    Small r ∧ key .f64 r = (if s then -(rungOf FloatKind.f64.format m p : Int) else (rungOf FloatKind.f64.format m p : Int)) := by
  have hm : vOf m p ≤ vOf 1 k := by
    cases s
    · exact h2
    · have : -vOf 1 k ≤ -vOf m p := h1
      grind
  have hk2 : vOf 1 (k : Int) ≤ vOf 1 62 := by
    unfold vOf
    have := pw_le (p := (k : Int)) (q := 62) (by omega)
    grind
  have hle : rungOf FloatKind.f64.format m p ≤ 4886405595696988160 := by
    have := rung_mono FloatKind.f64.format (m := m) (n := 1) (p := p) (q := 62) (by grind)
    rw [small62.2] at this
    exact this
  obtain rfl := cw_out hr
  have hru : ru FloatKind.f64.format (FloatKind.f64.format.write (.number s m p)) = rungOf FloatKind.f64.format m p := by
    rw [ru_write, i64]; omega
  refine ⟨by unfold Small; rw [hru]; exact hle, ?_⟩
  unfold key
  rw [hru, sg_write]

/-- Sums, differences and products that round to a Small number. -/
def SumW (x y r : Nat) : Prop := cw .f64 r = arithR .add .f64 (cw .f64 x) (cw .f64 y)
def SubW (x y r : Nat) : Prop := cw .f64 r = arithR .sub .f64 (cw .f64 x) (cw .f64 y)
def MulW (x y r : Nat) : Prop := cw .f64 r = arithR .mul .f64 (cw .f64 x) (cw .f64 y)
/-- r is the number v, rounded. -/
def Rounds (v : Rat) (r : Nat) : Prop := ∃ (s : Bool) (m : Nat) (p : Int), sv s (vOf m p) = v ∧ Small r ∧ key .f64 r = (if s then -(rungOf FloatKind.f64.format m p : Int) else (rungOf FloatKind.f64.format m p : Int))
theorem Rounds.mono {u v : Rat} {r t : Nat} (h : Rounds u r) (h' : Rounds v t) (huv : u ≤ v) : key .f64 r ≤ key .f64 t := by
  obtain ⟨s, m, p, e, _, k⟩ := h
  obtain ⟨s', m', p', e', _, k'⟩ := h'
  rw [k, k']
  exact round_mono (by rw [e, e']; exact huv)
theorem Rounds.small {v : Rat} {r : Nat} (h : Rounds v r) : Small r := by obtain ⟨_, _, _, _, h, _⟩ := h; exact h

theorem sum_rounds {x y r : Nat} {k : Nat} (hk : k ≤ 62) (fx : ru FloatKind.f64.format x < FloatKind.f64.format.infRung) (fy : ru FloatKind.f64.format y < FloatKind.f64.format.infRung) (h1 : -vOf 1 k ≤ val .f64 x + val .f64 y) (h2 : val .f64 x + val .f64 y ≤ vOf 1 k) (h : SumW x y r) : Rounds (val .f64 x + val .f64 y) r := by
  unfold SumW at h
  rw [floatBits_cw] at h
  obtain ⟨s, m, p, e, v, _⟩ := sum_fin .f64 fx fy
  rw [e] at h
  obtain ⟨a, b⟩ := round_small hk (by rw [v]; exact h1) (by rw [v]; exact h2) h
  exact ⟨s, m, p, v, a, b⟩
theorem sub_rounds {x y r : Nat} {k : Nat} (hk : k ≤ 62) (fx : ru FloatKind.f64.format x < FloatKind.f64.format.infRung) (fy : ru FloatKind.f64.format y < FloatKind.f64.format.infRung) (h1 : -vOf 1 k ≤ val .f64 x - val .f64 y) (h2 : val .f64 x - val .f64 y ≤ vOf 1 k) (h : SubW x y r) : Rounds (val .f64 x - val .f64 y) r := by
  unfold SubW at h
  rw [floatBits_cw] at h
  obtain ⟨s, m, p, e, v, _⟩ := sub_fin .f64 fx fy
  rw [e] at h
  obtain ⟨a, b⟩ := round_small hk (by rw [v]; exact h1) (by rw [v]; exact h2) h
  exact ⟨s, m, p, v, a, b⟩
theorem val_mul_sv (x y : Nat) : val .f64 x * val .f64 y = sv (sg FloatKind.f64.format x ^^ sg FloatKind.f64.format y) (rval FloatKind.f64.format (ru FloatKind.f64.format x) * rval FloatKind.f64.format (ru FloatKind.f64.format y)) := by
  rw [sv_mul]; rfl
theorem mul_rounds {x y r : Nat} {k : Nat} (hk : k ≤ 62) (fx : ru FloatKind.f64.format x < FloatKind.f64.format.infRung) (fy : ru FloatKind.f64.format y < FloatKind.f64.format.infRung) (h1 : -vOf 1 k ≤ val .f64 x * val .f64 y) (h2 : val .f64 x * val .f64 y ≤ vOf 1 k) (h : MulW x y r) : Rounds (val .f64 x * val .f64 y) r := by
  unfold MulW at h
  rw [floatBits_cw] at h
  obtain ⟨m, p, e, v⟩ := mul_fin .f64 fx fy
  rw [e] at h
  have hv : sv (sg FloatKind.f64.format x ^^ sg FloatKind.f64.format y) (vOf m p) = val .f64 x * val .f64 y := by rw [v, val_mul_sv]
  obtain ⟨a, b⟩ := round_small hk (by rw [hv]; exact h1) (by rw [hv]; exact h2) h
  exact ⟨_, m, p, hv, a, b⟩

/-- The number of a mild single, widened. -/
theorem wd_mild {a : Nat} (h : Mild a) : ru FloatKind.f64.format (wd a) < FloatKind.f64.format.infRung ∧ -vOf 1 30 ≤ val .f64 (wd a) ∧ val .f64 (wd a) ≤ vOf 1 30 := by
  obtain ⟨w1, w2⟩ := wd_fin h.fin
  have e : rungOf FloatKind.f32.format 1 30 = 1317011456 := by decide +kernel
  have h30 := rval_exact FloatKind.f32.format 1 30 (by rw [b32]; omega) (by rw [l32]; omega)
  rw [e] at h30
  have hv := rval_le FloatKind.f32.format h.2
  rw [h30] at hv
  have h0 := rval_nonneg FloatKind.f32.format (ru FloatKind.f32.format a)
  refine ⟨w1, ?_, ?_⟩
  · rw [w2]; unfold val; split <;> grind
  · rw [w2]; unfold val; split <;> grind
theorem pw_twice (k : Nat) : vOf 1 (k : Int) + vOf 1 (k : Int) = vOf 1 ((k + 1 : Nat) : Int) := by
  have := vOf_succ 1 (k : Int)
  rw [show ((k + 1 : Nat) : Int) = (k : Int) + 1 by omega, ← this]; grind
theorem pw_square : vOf 1 30 * vOf 1 30 = vOf 1 60 := by
  unfold vOf
  have := pw_add 30 30
  rw [show (30 : Int) + 30 = 60 by omega] at this
  rw [this]; grind
theorem prod_bound {x y B : Rat} (hB : 0 ≤ B) (x1 : -B ≤ x) (x2 : x ≤ B) (y1 : -B ≤ y) (y2 : y ≤ B) : -(B * B) ≤ x * y ∧ x * y ≤ B * B := by
  have a1 : 0 ≤ (B - x) * (B - y) := Rat.mul_nonneg (by grind) (by grind)
  have a2 : 0 ≤ (B + x) * (B + y) := Rat.mul_nonneg (by grind) (by grind)
  have a3 : 0 ≤ (B - x) * (B + y) := Rat.mul_nonneg (by grind) (by grind)
  have a4 : 0 ≤ (B + x) * (B - y) := Rat.mul_nonneg (by grind) (by grind)
  constructor <;> grind
/-- A product lies between two products of ends. -/
theorem corner_low {a b c d x y : Rat} (h1 : a ≤ x) (h2 : x ≤ b) (h3 : c ≤ y) (h4 : y ≤ d) : a * c ≤ x * y ∨ a * d ≤ x * y ∨ b * c ≤ x * y ∨ b * d ≤ x * y := by
  rcases Rat.le_total (a := 0) (b := y) with hy | hy
  · have e1 : 0 ≤ (x - a) * y := Rat.mul_nonneg (by grind) hy
    rcases Rat.le_total (a := 0) (b := a) with ha | ha
    · have e2 : 0 ≤ a * (y - c) := Rat.mul_nonneg ha (by grind)
      left; grind
    · have e2 : 0 ≤ (-a) * (d - y) := Rat.mul_nonneg (by grind) (by grind)
      right; left; grind
  · have e1 : 0 ≤ (b - x) * (-y) := Rat.mul_nonneg (by grind) (by grind)
    rcases Rat.le_total (a := 0) (b := b) with ha | ha
    · have e2 : 0 ≤ b * (y - c) := Rat.mul_nonneg ha (by grind)
      right; right; left; grind
    · have e2 : 0 ≤ (-b) * (d - y) := Rat.mul_nonneg (by grind) (by grind)
      right; right; right; grind
theorem corner_high {a b c d x y : Rat} (h1 : a ≤ x) (h2 : x ≤ b) (h3 : c ≤ y) (h4 : y ≤ d) : x * y ≤ a * c ∨ x * y ≤ a * d ∨ x * y ≤ b * c ∨ x * y ≤ b * d := by
  have h := corner_low (a := -b) (b := -a) (x := -x) (c := c) (d := d) (y := y) (by grind) (by grind) h3 h4
  rcases h with h | h | h | h
  · right; right; left; grind
  · right; right; right; grind
  · left; grind
  · right; left; grind
end Go.Proofs.Ytldcciipicnooaa
