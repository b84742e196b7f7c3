/- Arithmetic of finite words, as values. No program in sight. -/
import Derived.Test.YtjgjgjkffoagoaaDoorOrd
namespace Go.Proofs.YtjgjgjkffoagoaaDoor
open Go.RowKit

theorem sv_neg (s : Bool) (x : Rat) : sv (!s) x = -sv s x := by
  cases s <;> simp [sv]
theorem sv_mul (s t : Bool) (x y : Rat) : sv (s ^^ t) (x * y) = sv s x * sv t y := by
  cases s <;> cases t <;> simp [sv] <;> grind

section
variable (k : FloatKind) {x y : Nat}

theorem mul_fin (hx : ru k.format x < k.format.infRung) (hy : ru k.format y < k.format.infRung) :
    ∃ m p, floatBits .mul k x y = some (k.format.write (.number (sg k.format x ^^ sg k.format y) m p)) ∧ vOf m p = rval k.format (ru k.format x) * rval k.format (ru k.format y) := by
  obtain ⟨m, p, e1, v1⟩ := read_fin _ hx
  obtain ⟨n, q, e2, v2⟩ := read_fin _ hy
  refine ⟨m * n, p + q, ?_, ?_⟩
  · show ((k.format.read x).product (k.format.read y)).map k.format.write = _
    rw [e1, e2]; rfl
  · rw [← v1, ← v2]
    unfold vOf
    rw [pw_add, Rat.natCast_mul]; grind

theorem signed_add (s t : Bool) (m n : Nat) (i j : Int) : ∃ (T : Int), T = Ieee.signed s m (i - min i j).toNat + Ieee.signed t n (j - min i j).toNat ∧ (T : Rat) * pw (min i j) = sv s (vOf m i) + sv t (vOf n j) := by
  refine ⟨_, rfl, ?_⟩
  have h1 := signed_rat s m (i - min i j).toNat (min i j)
  have h2 := signed_rat t n (j - min i j).toNat (min i j)
  rw [show min i j + ((i - min i j).toNat : Int) = i by omega] at h1
  rw [show min i j + ((j - min i j).toNat : Int) = j by omega] at h2
  rw [← h1, ← h2, Rat.intCast_add]
  grind

theorem sum_numbers (s t : Bool) (m n : Nat) (i j : Int) : ∃ u l p, (Ieee.Datum.number s m i).sum (.number t n j) = some (.number u l p) ∧ sv u (vOf l p) = sv s (vOf m i) + sv t (vOf n j) ∧ (l = 0 → u = (s && t)) := by
  obtain ⟨T, hT, hv⟩ := signed_add s t m n i j
  have e : (Ieee.Datum.number s m i).sum (.number t n j) = some (.number (if T = 0 then s && t else decide (T < 0)) T.natAbs (min i j)) := by rw [hT]; rfl
  refine ⟨_, _, _, e, ?_, ?_⟩
  · rw [← hv]
    by_cases h0 : T = 0
    · subst h0; simp [vOf_zero, sv]
    · rw [if_neg h0]
      unfold vOf sv
      by_cases hn : T < 0
      · have ha : (T.natAbs : Int) = -T := by omega
        have hb : ((T.natAbs : Nat) : Rat) = -(T : Rat) := by rw [← Rat.intCast_natCast, ha, Rat.intCast_neg]
        rw [decide_eq_true hn, hb]; simp; grind
      · have ha : (T.natAbs : Int) = T := by omega
        have hb : ((T.natAbs : Nat) : Rat) = (T : Rat) := by rw [← Rat.intCast_natCast, ha]
        rw [decide_eq_false hn, hb]; simp
  · intro h0
    rw [if_pos (Int.natAbs_eq_zero.1 h0)]

theorem sum_fin (hx : ru k.format x < k.format.infRung) (hy : ru k.format y < k.format.infRung) :
    ∃ s m p, floatBits .add k x y = some (k.format.write (.number s m p)) ∧ sv s (vOf m p) = val k x + val k y ∧ (m = 0 → s = (sg k.format x && sg k.format y)) := by
  obtain ⟨m, p, e1, v1⟩ := read_fin _ hx
  obtain ⟨n, q, e2, v2⟩ := read_fin _ hy
  obtain ⟨u, l, r, h1, h2, h3⟩ := sum_numbers (sg k.format x) (sg k.format y) m n p q
  refine ⟨u, l, r, ?_, ?_, h3⟩
  · show ((k.format.read x).sum (k.format.read y)).map k.format.write = _
    rw [e1, e2, h1]; rfl
  · rw [h2, v1, v2]; rfl

theorem sub_fin (hx : ru k.format x < k.format.infRung) (hy : ru k.format y < k.format.infRung) :
    ∃ s m p, floatBits .sub k x y = some (k.format.write (.number s m p)) ∧ sv s (vOf m p) = val k x - val k y ∧ (m = 0 → s = (sg k.format x && !sg k.format y)) := by
  obtain ⟨m, p, e1, v1⟩ := read_fin _ hx
  obtain ⟨n, q, e2, v2⟩ := read_fin _ hy
  obtain ⟨u, l, r, h1, h2, h3⟩ := sum_numbers (sg k.format x) (!sg k.format y) m n p q
  refine ⟨u, l, r, ?_, ?_, h3⟩
  · show ((k.format.read x).sum (k.format.read y).opposite).map k.format.write = _
    rw [e1, e2]
    show ((Ieee.Datum.number (sg k.format x) m p).sum (.number (!sg k.format y) n q)).map k.format.write = _
    rw [h1]; rfl
  · rw [h2, v1, v2, sv_neg]
    show val k x + -(val k y) = _
    grind

theorem key_zero {b : Nat} (h : ru k.format b = 0) : key k b = 0 := by unfold key; rw [h]; split <;> rfl
theorem ru_zero : ru k.format 0 = 0 := Nat.zero_mod _
theorem sg_zero : sg k.format 0 = false := by unfold sg; simp
theorem inf_pos : 0 < k.format.infRung := by cases k <;> decide
theorem rung_zero (f : Ieee.Format) {m : Nat} {p : Int} (h : vOf m p = 0) : rungOf f m p = 0 := by
  rw [vOf_eq_zero h]; unfold rungOf; simp

/-- 'x - x == 0': whether x is finite. -/
theorem fine_iff (b r : Nat) (h : cw .f64 r = arithR .sub .f64 (cw .f64 b) (cw .f64 b)) : (FloatKind.f64.format.order r 0 == some .eq) = finB .f64 b := by
  rw [floatBits_cw] at h
  have h0 : ru FloatKind.f64.format 0 ≤ FloatKind.f64.format.infRung := by rw [ru_zero]; exact Nat.zero_le _
  unfold finB
  rcases Nat.lt_trichotomy (ru FloatKind.f64.format b) FloatKind.f64.format.infRung with hb | hb | hb
  · obtain ⟨s, m, p, e, v, _⟩ := sub_fin .f64 hb hb
    rw [e] at h
    have hr : r = FloatKind.f64.format.write (.number s m p) := by
      rcases cw_cases .f64 r with ⟨h3, _⟩ | ⟨h3, _⟩
      · rw [h3] at h; cases h
      · rw [h3] at h; injection h
    have hv : vOf m p = 0 := by
      have : sv s (vOf m p) = 0 := by rw [v]; grind
      cases s
      · exact this
      · have h2 : -(vOf m p) = 0 := this
        grind
    have hz : ru FloatKind.f64.format r = 0 := by rw [hr, ru_write, rung_zero _ hv]; omega
    rw [ord_eq .f64 (by rw [hz]; exact Nat.zero_le _) h0, key_zero .f64 hz, key_zero .f64 (ru_zero .f64)]
    simp [hb]
  · have e : floatBits .sub .f64 b b = none := by
      show ((FloatKind.f64.format.read b).sum (FloatKind.f64.format.read b).opposite).map _ = none
      rw [read_inf .f64 hb]
      cases sg FloatKind.f64.format b <;> rfl
    rw [e] at h
    have hr : FloatKind.f64.format.infRung < ru FloatKind.f64.format r := by
      rcases cw_cases .f64 r with ⟨_, h3⟩ | ⟨h3, _⟩
      · exact h3
      · rw [h3] at h; cases h
    rw [order_nan_left .f64 hr]
    simp; omega
  · have e : floatBits .sub .f64 b b = none := floatBits_nan_left .sub .f64 b b (by rw [isNaN_iff .f64]; simpa using hb)
    rw [e] at h
    have hr : FloatKind.f64.format.infRung < ru FloatKind.f64.format r := by
      rcases cw_cases .f64 r with ⟨_, h3⟩ | ⟨h3, _⟩
      · exact h3
      · rw [h3] at h; cases h
    rw [order_nan_left .f64 hr]
    simp; omega
end

theorem l01Fine_any (b : Nat) (w : World) :
    Calls Tryd.prog 88 #[.float .f64 b] w fun e w' => e = .returned (.bool (finB .f64 b)) ∧ ∃ n, w' = w.drewN n := by
  go_enter Tryd.func88, Tryd.ntmps88
  go_wp2_with (refine wpl_farith 5 rfl rfl rfl rfl rfl rfl ?_; intro r1 n1 hr1)
  go_ret
  exact ⟨congrArg (fun x => Ending.returned (.bool x)) (fine_iff b r1 hr1.out.1), _, rfl⟩
end Go.Proofs.YtjgjgjkffoagoaaDoor
