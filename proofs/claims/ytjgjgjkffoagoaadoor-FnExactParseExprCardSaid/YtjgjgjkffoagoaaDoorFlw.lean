/- Words of floats: sign and rung; order; sums, products as values. No program in sight. -/
import Derived.Test.YtjgjgjkffoagoaaDoorFlv
namespace Go.Proofs.YtjgjgjkffoagoaaDoor

section
variable (f : Ieee.Format)
def sg (b : Nat) : Bool := b / f.signWeight % 2 == 1
def ru (b : Nat) : Nat := b % f.signWeight
theorem sw_pos : 0 < f.signWeight := Nat.two_pow_pos _
theorem two_sw : 2 ^ f.width = 2 * f.signWeight := by
  unfold Ieee.Format.width Ieee.Format.signWeight
  rw [Nat.add_assoc, Nat.add_comm 1, Nat.pow_succ, Nat.mul_comm]
theorem ru_lt (b : Nat) : ru f b < f.signWeight := Nat.mod_lt _ (sw_pos f)
theorem word_sg_ru {b : Nat} (h : b < 2 ^ f.width) : f.word (sg f b) (ru f b) = b := by
  have hs := sw_pos f
  rw [two_sw] at h
  have hd : b / f.signWeight < 2 := by rw [Nat.div_lt_iff_lt_mul hs]; omega
  have hm := Nat.div_add_mod b f.signWeight
  unfold Ieee.Format.word sg ru
  generalize b / f.signWeight = q at *
  match q, hd with
  | 0, _ => simp at hm ⊢; omega
  | 1, _ => simp at hm ⊢; omega
theorem sg_word (s : Bool) {r : Nat} (h : r < f.signWeight) : sg f (f.word s r) = s := by
  have hs := sw_pos f
  cases s
  · simp [sg, Ieee.Format.word, Nat.div_eq_of_lt h]
  · have : (f.signWeight + r) / f.signWeight = 1 := by rw [Nat.add_div_left _ hs, Nat.div_eq_of_lt h]
    simp [sg, Ieee.Format.word, this]
theorem ru_word (s : Bool) {r : Nat} (h : r < f.signWeight) : ru f (f.word s r) = r := by
  cases s
  · simp [ru, Ieee.Format.word, Nat.mod_eq_of_lt h]
  · simp [ru, Ieee.Format.word, Nat.mod_eq_of_lt h]

theorem read_eq (b : Nat) : f.read b =
    if ru f b < f.binade then .number (sg f b) (ru f b) f.leastPlace else if ru f b < f.infRung then .number (sg f b) (f.binade + ru f b % f.binade) (f.leastPlace + (ru f b / f.binade - 1 : Nat))
    else if ru f b = f.infRung then .infinity (sg f b) else .nan (sg f b) (ru f b - f.infRung) := rfl

theorem read_fin {b : Nat} (h : ru f b < f.infRung) : ∃ m p, f.read b = .number (sg f b) m p ∧ vOf m p = rval f (ru f b) := by
  rw [read_eq]
  by_cases h1 : ru f b < f.binade
  · refine ⟨_, _, if_pos h1, ?_⟩
    unfold rval
    rw [expo_small f h1]; simp
  · refine ⟨f.binade + ru f b % f.binade, f.leastPlace + (ru f b / f.binade - 1 : Nat), by rw [if_neg h1, if_pos h], ?_⟩
    have hb := binade_pos f
    have h2 : 1 ≤ ru f b / f.binade := by rw [Nat.le_div_iff_mul_le hb]; omega
    have h3 := Nat.div_add_mod (ru f b) f.binade
    have h4 : ru f b / f.binade = expo f (ru f b) + 1 := by unfold expo; omega
    unfold rval
    rw [show (ru f b / f.binade - 1 : Nat) = expo f (ru f b) from rfl]
    congr 1
    rw [h4, Nat.mul_comm, Nat.add_mul] at h3
    omega
end

section
variable (k : FloatKind)
theorem read_inf {b : Nat} (h : ru k.format b = k.format.infRung) : k.format.read b = .infinity (sg k.format b) := by
  have := binade_le k
  rw [read_eq, if_neg (by omega), if_neg (by omega), if_pos h]
theorem read_nan {b : Nat} (h : k.format.infRung < ru k.format b) : k.format.read b = .nan (sg k.format b) (ru k.format b - k.format.infRung) := by
  have := binade_le k
  rw [read_eq, if_neg (by omega), if_neg (by omega), if_neg (by omega)]
theorem isNaN_iff (b : Nat) : (k.format.read b).isNaN = decide (k.format.infRung < ru k.format b) := by
  rcases Nat.lt_trichotomy (ru k.format b) k.format.infRung with h | h | h
  · obtain ⟨m, p, e, _⟩ := read_fin _ h
    rw [e]; simp [Ieee.Datum.isNaN]; omega
  · rw [read_inf k h]; simp [Ieee.Datum.isNaN]; omega
  · rw [read_nan k h]; simp [Ieee.Datum.isNaN]; omega
theorem cw_eq (b : Nat) : cw k b = if k.format.infRung < ru k.format b then none else some b := by
  unfold cw
  rw [isNaN_iff]; simp
theorem cw_some {b : Nat} (h : ru k.format b ≤ k.format.infRung) : cw k b = some b := by
  rw [cw_eq, if_neg (by omega)]
theorem cw_none {b : Nat} (h : k.format.infRung < ru k.format b) : cw k b = none := by
  rw [cw_eq, if_pos h]
theorem cw_cases (b : Nat) : (cw k b = none ∧ k.format.infRung < ru k.format b) ∨ (cw k b = some b ∧ ru k.format b ≤ k.format.infRung) := by
  rcases Nat.lt_or_ge k.format.infRung (ru k.format b) with h | h
  · exact .inl ⟨cw_none k h, h⟩
  · exact .inr ⟨cw_some k h, h⟩

/-- The place of a word among all that are no NaN. -/
def key (b : Nat) : Int := if sg k.format b then -(ru k.format b : Int) else (ru k.format b : Int)
/-- What a finite word stands for. -/
def val (b : Nat) : Rat := if sg k.format b then -rval k.format (ru k.format b) else rval k.format (ru k.format b)

def sv (s : Bool) (x : Rat) : Rat := if s then -x else x
theorem signed_rat (s : Bool) (m u : Nat) (p : Int) : ((Ieee.signed s m u : Int) : Rat) * pw p = sv s (vOf m (p + u)) := by
  have h : (((m <<< u : Nat) : Int) : Rat) * pw p = vOf m (p + u) := by
    rw [Nat.shiftLeft_eq, ← vOf_shift]; rfl
  unfold Ieee.signed sv
  cases s
  · simp only [Bool.false_eq_true, if_false]; exact h
  · simp only [if_true, Rat.intCast_neg]
    rw [Rat.neg_mul, h]

theorem order_numbers (s t : Bool) (m n : Nat) (i j : Int) : (Ieee.Datum.number s m i).order (.number t n j) =
    some (if sv s (vOf m i) < sv t (vOf n j) then .lt else if sv s (vOf m i) = sv t (vOf n j) then .eq else .gt) := by
  have h1 := signed_rat s m (i - min i j).toNat (min i j)
  have h2 := signed_rat t n (j - min i j).toNat (min i j)
  rw [show min i j + ((i - min i j).toNat : Int) = i by omega] at h1
  rw [show min i j + ((j - min i j).toNat : Int) = j by omega] at h2
  rw [← h1, ← h2]
  show some (compare (Ieee.signed s m (i - min i j).toNat) (Ieee.signed t n (j - min i j).toNat)) = _
  have hu := pw_pos (min i j)
  generalize Ieee.signed s m (i - min i j).toNat = a
  generalize Ieee.signed t n (j - min i j).toNat = b
  generalize pw (min i j) = u at *
  congr 1
  rcases Int.lt_trichotomy a b with h | h | h
  · rw [if_pos (Rat.mul_lt_mul_of_pos_right (Rat.intCast_lt_intCast.2 h) hu)]
    exact Int.compare_eq_lt.2 h
  · subst h
    rw [if_neg (Rat.lt_irrefl), if_pos rfl]
    exact Int.compare_eq_eq.2 rfl
  · have h3 := Rat.mul_lt_mul_of_pos_right (Rat.intCast_lt_intCast.2 h) hu
    rw [if_neg (by grind), if_neg (by grind)]
    exact Int.compare_eq_gt.2 h

theorem rval_pos (f : Ieee.Format) {r : Nat} (h : 0 < r) : 0 < rval f r := by
  have := rval_lt f h
  rw [rval_zero] at this
  exact this

theorem key_val_lt (x y : Nat) : val k x < val k y ↔ key k x < key k y := by
  unfold val key
  generalize ru k.format x = r
  generalize ru k.format y = s
  have hr := rval_nonneg k.format r
  have hs := rval_nonneg k.format s
  cases sg k.format x <;> cases sg k.format y <;> simp only [Bool.false_eq_true, if_false, if_true]
  · rw [rval_lt_iff]; omega
  · constructor
    · intro h; exfalso; grind
    · intro h; omega
  · constructor
    · intro h
      rcases Nat.eq_zero_or_pos r with h0 | h0
      · rcases Nat.eq_zero_or_pos s with h1 | h1
        · rw [h0, h1, rval_zero] at h; exfalso; grind
        · omega
      · omega
    · intro h
      rcases Nat.eq_zero_or_pos r with h0 | h0
      · have := rval_pos k.format (r := s) (by omega)
        rw [h0, rval_zero]; grind
      · have := rval_pos k.format h0
        grind
  · rw [Rat.neg_lt_neg_iff, rval_lt_iff]; omega

theorem key_val_eq (x y : Nat) : val k x = val k y ↔ key k x = key k y := by
  have h1 := key_val_lt k x y
  have h2 := key_val_lt k y x
  constructor
  · intro h
    rw [h] at h1 h2
    have h3 : ¬ key k x < key k y := fun h => Rat.lt_irrefl (h1.2 h)
    have h4 : ¬ key k y < key k x := fun h => Rat.lt_irrefl (h2.2 h)
    omega
  · intro h
    rw [h] at h1 h2
    have h3 : ¬ val k x < val k y := fun h => Int.lt_irrefl _ (h1.1 h)
    have h4 : ¬ val k y < val k x := fun h => Int.lt_irrefl _ (h2.1 h)
    grind

theorem sv_rval (b : Nat) : sv (sg k.format b) (rval k.format (ru k.format b)) = val k b := rfl

/-- THE ORDER of two words that are no NaN. -/
theorem order_key {x y : Nat} (hx : ru k.format x ≤ k.format.infRung) (hy : ru k.format y ≤ k.format.infRung) : k.format.order x y = some (compare (key k x) (key k y)) := by
  have hi : (0 : Int) < k.format.infRung := by cases k <;> decide
  show (k.format.read x).order (k.format.read y) = _
  rcases Nat.lt_or_eq_of_le hx with h1 | h1 <;> rcases Nat.lt_or_eq_of_le hy with h2 | h2
  · obtain ⟨m, p, e1, v1⟩ := read_fin _ h1
    obtain ⟨n, q, e2, v2⟩ := read_fin _ h2
    rw [e1, e2, order_numbers, v1, v2, sv_rval, sv_rval]
    congr 1
    by_cases h3 : key k x < key k y
    · rw [if_pos ((key_val_lt k x y).2 h3)]; exact (Int.compare_eq_lt.2 h3).symm
    · rw [if_neg (fun h => h3 ((key_val_lt k x y).1 h))]
      by_cases h4 : key k x = key k y
      · rw [if_pos ((key_val_eq k x y).2 h4)]; exact (Int.compare_eq_eq.2 h4).symm
      · rw [if_neg (fun h => h4 ((key_val_eq k x y).1 h))]; exact (Int.compare_eq_gt.2 (by omega)).symm
  · obtain ⟨m, p, e1, v1⟩ := read_fin _ h1
    rw [e1, read_inf k h2]
    show some _ = some _
    congr 1
    unfold key
    rw [h2]
    cases sg k.format y <;> cases sg k.format x <;> simp only [Bool.false_eq_true, if_false, if_true] <;> first | exact (Int.compare_eq_lt.2 (by omega)).symm | exact (Int.compare_eq_gt.2 (by omega)).symm
  · obtain ⟨n, q, e2, v2⟩ := read_fin _ h2
    rw [e2, read_inf k h1]
    show some _ = some _
    congr 1
    unfold key
    rw [h1]
    cases sg k.format y <;> cases sg k.format x <;> simp only [Bool.false_eq_true, if_false, if_true] <;> first | exact (Int.compare_eq_lt.2 (by omega)).symm | exact (Int.compare_eq_gt.2 (by omega)).symm
  · rw [read_inf k h1, read_inf k h2]
    show some _ = some _
    congr 1
    unfold key
    rw [h1, h2]
    cases sg k.format y <;> cases sg k.format x <;> simp only [Bool.false_eq_true, if_false, if_true] <;> first | exact (Int.compare_eq_lt.2 (by omega)).symm | exact (Int.compare_eq_gt.2 (by omega)).symm | (simp [compare, compareOfLessAndEq])
theorem order_nan_left {x y : Nat} (hx : k.format.infRung < ru k.format x) : k.format.order x y = none := by
  show (k.format.read x).order (k.format.read y) = _
  rw [read_nan k hx]; rfl
theorem order_nan_right {x y : Nat} (hy : k.format.infRung < ru k.format y) : k.format.order x y = none := by
  show (k.format.read x).order (k.format.read y) = _
  rw [read_nan k hy]; cases k.format.read x <;> rfl
end
end Go.Proofs.YtjgjgjkffoagoaaDoor
