/- How many units a number is: what both sides compute. No program in sight. -/
import Derived.Test.YtldcciipicnooaaDoorInt
namespace Go.Proofs.YtldcciipicnooaaDoor
open Go.RowKit

def quotW (x v : Nat) : Option Nat := arithR .quo .f64 (widen (cw .f32 x)) (widen (cw .f32 v))
def rnd (v : Rat) : Nat := if (1 / 2 : Rat) ≤ v - (flN v : Rat) then flN v + 1 else flN v
def sgI (s : Bool) (n : Nat) : Int := if s then -(n : Int) else (n : Int)
def amt (q : Nat) : Rat := rval FloatKind.f64.format (ru FloatKind.f64.format q)
def small (q : Nat) : Bool := decide (ru FloatKind.f64.format q < FloatKind.f64.format.infRung ∧ amt q ≤ 1000000000)
/-- What QuantumOf answers, of a number and of what UnitValue answers. -/
def quantF (x : Nat) (u : Nat × Bool) : Int × Bool :=
  if u.2 && finB .f32 x then match quotW x u.1 with
    | none => (0, false)
    | some q => if small q then (sgI (sg FloatKind.f64.format q) (rnd (amt q)), true) else (0, false)
  else (0, false)

theorem mkOk_rung {m : Nat} {e : Int} (h : mkOk m e = true) : rungOf FloatKind.f32.format m e < FloatKind.f32.format.infRung := by
  unfold mkOk at h; simp at h; exact h.1
theorem word32 {r : Nat} (h : r < FloatKind.f32.format.infRung) : r < 2 ^ 32 ∧ ru FloatKind.f32.format r = r ∧ sg FloatKind.f32.format r = false := by
  rw [i32] at h
  refine ⟨by omega, ?_, ?_⟩
  · unfold ru; rw [s32]; exact Nat.mod_eq_of_lt (by omega)
  · unfold sg; rw [s32, Nat.div_eq_of_lt (by omega)]; rfl
theorem make_word {s : List UInt8} {m e : Int} {v : Nat} (h : makeF s m e = (v, true)) : v < 2 ^ 32 ∧ ru FloatKind.f32.format v < FloatKind.f32.format.infRung := by
  unfold makeF at h
  split at h
  · rename_i hc
    simp only [Bool.and_eq_true] at hc
    have hr := mkOk_rung hc.2
    obtain ⟨w1, w2, w3⟩ := word32 hr
    unfold signedF at h
    split at h
    · injection h with h1 _; subst h1; exact ⟨w1, by rw [w2]; exact hr⟩
    · split at h
      · injection h with h1 _; subst h1
        exact ⟨neg_lt .f32 w1, by rw [ru_neg .f32 w1, w2]; exact hr⟩
      · injection h with _ h2; cases h2
  · injection h with _ h2; cases h2
theorem unit_word {s : List UInt8} {m e : Int} {v : Nat} (h : unitF s m e = (v, true)) : v < 2 ^ 32 ∧ ru FloatKind.f32.format v < FloatKind.f32.format.infRung ∧ 0 < ru FloatKind.f32.format v := by
  unfold unitF at h
  split at h
  · rename_i hc
    simp only [Bool.and_eq_true, Bool.not_eq_true'] at hc
    injection h with h1 _
    obtain ⟨a, b⟩ := make_word (s := s) (m := m) (e := e) (v := v) (by rw [← h1, ← hc.1])
    refine ⟨a, b, ?_⟩
    rw [h1] at hc
    rcases Nat.eq_zero_or_pos (ru FloatKind.f32.format v) with h0 | h0
    · have h2 := hc.2
      rw [ord_eq .f32 (by omega) (by rw [ru_zero]; exact Nat.zero_le _), key_zero .f32 h0, key_zero .f32 (ru_zero .f32)] at h2
      simp at h2
    · exact h0
  · injection h with _ h2; cases h2

/-- A single's word as a double's. -/
theorem widen_some {x : Nat} (h : ru FloatKind.f32.format x < FloatKind.f32.format.infRung) :
    ∃ r, widen (cw .f32 x) = some r ∧ cw .f64 r = some r ∧ r < 2 ^ 64 ∧ ru FloatKind.f64.format r < FloatKind.f64.format.infRung ∧ sg FloatKind.f64.format r = sg FloatKind.f32.format x ∧ val .f64 r = val .f32 x := by
  obtain ⟨q, hq, a1, a2, a3⟩ := widen_fin h
  refine ⟨q, by rw [cw_some .f32 (Nat.le_of_lt h), hq]; rfl, cw_some .f64 (Nat.le_of_lt a2), by rw [hq]; exact FloatKind.f64.format.write_lt _, a2, a1, a3⟩
theorem ratNegInj {a b : Rat} (h : -a = -b) : a = b := by grind
theorem neg_zero_of {a b : Rat} (h0 : 0 ≤ b) (h1 : 0 ≤ a) (h : -a = b) : a = b ∧ b = 0 := by grind
theorem abs_val (k : FloatKind) (x y : Nat) (hs : sg k.format x = sg k.format y) (hv : val k x = val k y) : rval k.format (ru k.format x) = rval k.format (ru k.format y) := by
  unfold val at hv
  rw [hs] at hv
  cases h : sg k.format y
  · rw [h] at hv; exact hv
  · rw [h] at hv
    exact ratNegInj hv

theorem quot_some {x v : Nat} (hx : ru FloatKind.f32.format x < FloatKind.f32.format.infRung) (hv : ru FloatKind.f32.format v < FloatKind.f32.format.infRung) (h0 : 0 < ru FloatKind.f32.format v) :
    ∃ q, quotW x v = some q ∧ cw .f64 q = some q ∧ q < 2 ^ 64 := by
  obtain ⟨a, wa, ca, la, fa, sa, va⟩ := widen_some hx
  obtain ⟨b, wb, cb, lb, fb, sb, vb⟩ := widen_some hv
  unfold quotW
  rw [wa, wb]
  show ∃ q, floatBits .quo .f64 a b = some q ∧ _
  obtain ⟨m, p, e1, v1⟩ := read_fin _ fa
  obtain ⟨n, j, e2, v2⟩ := read_fin _ fb
  have hn : n ≠ 0 := by
    intro hn
    subst hn
    rw [vOf_zero] at v2
    have h1 : val .f64 b = 0 := by unfold val; rw [← v2]; split <;> simp
    rw [vb] at h1
    have h2 := rval_pos FloatKind.f32.format h0
    unfold val at h1
    split at h1 <;> grind
  have hq : ∃ d : Ieee.Datum, ((FloatKind.f64.format.read a).quotient (FloatKind.f64.format.fractionBits + 2) (FloatKind.f64.format.read b)) = some d := by
    rw [e1, e2]
    unfold Ieee.Datum.quotient
    simp only [hn, if_false]
    exact ⟨_, rfl⟩
  obtain ⟨d, hd⟩ := hq
  have he : floatBits .quo .f64 a b = some (FloatKind.f64.format.write d) := by
    show ((FloatKind.f64.format.read a).quotient (FloatKind.f64.format.fractionBits + 2) (FloatKind.f64.format.read b)).map _ = _
    rw [hd]; rfl
  exact ⟨_, he, floatBits_num he, FloatKind.f64.format.write_lt d⟩

theorem cmax : ru FloatKind.f64.format 4741671816366391296 = 4741671816366391296 ∧ sg FloatKind.f64.format 4741671816366391296 = false ∧ FloatKind.f64.format.read 4741671816366391296 = .number false 8388608000000000 (-23) := by decide
theorem cmax_val : rval FloatKind.f64.format 4741671816366391296 = 1000000000 := by
  obtain ⟨m, p, e, v⟩ := read_fin FloatKind.f64.format (b := 4741671816366391296) (by rw [cmax.1, i64]; decide)
  rw [cmax.2.2] at e
  injection e with _ e1 e2
  subst e1; subst e2
  rw [cmax.1] at v
  rw [← v, show (8388608000000000 : Nat) = 1000000000 * 2 ^ 23 by decide, vOf_shift]
  unfold vOf
  rw [show (-23 : Int) + ((23 : Nat) : Int) = 0 by omega, pw_zero]
  simp
theorem chalf : ru FloatKind.f64.format 4602678819172646912 = 4602678819172646912 ∧ sg FloatKind.f64.format 4602678819172646912 = false ∧ FloatKind.f64.format.read 4602678819172646912 = .number false 4503599627370496 (-53) := by decide
theorem chalf_val : rval FloatKind.f64.format 4602678819172646912 = 1 / 2 := by
  obtain ⟨m, p, e, v⟩ := read_fin FloatKind.f64.format (b := 4602678819172646912) (by rw [chalf.1, i64]; decide)
  rw [chalf.2.2] at e
  injection e with _ e1 e2
  subst e1; subst e2
  rw [chalf.1] at v
  rw [← v, show (4503599627370496 : Nat) = 1 * 2 ^ 52 by decide, vOf_shift]
  unfold vOf
  rw [show (-53 : Int) + ((52 : Nat) : Int) = -1 by omega]
  have := pw_succ (-1)
  rw [show (-1 : Int) + 1 = 0 by omega, pw_zero] at this
  have h2 : pw (-1) = 1 / 2 := by grind
  rw [h2]; simp

/-- 'a > MaxQuantum', for whatever word of the amount. -/
theorem big_cmp {q a : Nat} (hq : ru FloatKind.f64.format q ≤ FloatKind.f64.format.infRung) (ha : ru FloatKind.f64.format a = ru FloatKind.f64.format q) (hs : sg FloatKind.f64.format a = false ∨ ru FloatKind.f64.format a = 0) :
    (FloatKind.f64.format.order a 4741671816366391296 == some .gt) = !small q := by
  have hk : key .f64 a = ru FloatKind.f64.format q := by
    rcases hs with h | h
    · rw [key_pos .f64 h, ha]
    · rw [key_zero .f64 h, ← ha, h]; rfl
  rw [ord_gt .f64 (by rw [ha]; exact hq) (by rw [cmax.1, i64]; decide), key_pos .f64 cmax.2.1, cmax.1, hk]
  unfold small amt
  rw [← cmax_val]
  have hr := @rval_lt_iff FloatKind.f64.format 4741671816366391296 (ru FloatKind.f64.format q)
  rw [Bool.eq_iff_iff]
  simp only [decide_eq_true_eq, Bool.not_eq_true', decide_eq_false_iff_not, not_and, Rat.not_le]
  rw [i64]
  constructor
  · intro h _
    exact hr.2 (by omega)
  · intro h
    rcases Nat.lt_or_ge (ru FloatKind.f64.format q) 9218868437227405312 with h1 | h1
    · have := hr.1 (h h1); omega
    · omega

theorem natCast_sub {a b : Nat} (h : b ≤ a) : ((a - b : Nat) : Rat) = (a : Rat) - (b : Rat) := by
  have h5 : (((a - b) + b : Nat) : Rat) = ((a - b : Nat) : Rat) + (b : Rat) := Rat.natCast_add _ _
  rw [Nat.sub_add_cancel h] at h5
  grind
/-- A double less its whole part is a double. -/
theorem sub_floor_exact {m N : Nat} {p : Int} (hm : m < 2 ^ 53) (hp : -1074 ≤ p) (f1 : (N : Rat) ≤ vOf m p) (f2 : vOf m p < (N : Rat) + 1) :
    ∃ M P, M < 2 ^ 53 ∧ -1074 ≤ P ∧ P ≤ 0 ∧ vOf M P = vOf m p - (N : Rat) := by
  rcases Int.lt_or_le p 0 with hp0 | hp0
  · have e1 : (N : Rat) = vOf (N * 2 ^ (-p).toNat) p := by
      rw [vOf_shift, show p + ((-p).toNat : Int) = 0 by omega]; unfold vOf; rw [pw_zero]; grind
    have hle : N * 2 ^ (-p).toNat ≤ m := by
      rw [e1] at f1
      unfold vOf at f1
      exact Rat.natCast_le_natCast.1 (Rat.le_of_mul_le_mul_right f1 (pw_pos p))
    refine ⟨m - N * 2 ^ (-p).toNat, p, by omega, hp, by omega, ?_⟩
    rw [e1]
    unfold vOf
    rw [natCast_sub hle]; grind
  · refine ⟨0, 0, by decide, by omega, by omega, ?_⟩
    rw [vOf_zero]
    have e1 : vOf m p = ((m * 2 ^ p.toNat : Nat) : Rat) := by
      have h1 := vOf_shift m p.toNat 0
      rw [show (0 : Int) + (p.toNat : Int) = p by omega] at h1
      rw [← h1]; unfold vOf; rw [pw_zero]; grind
    rw [e1] at f1 f2 ⊢
    have h1 := Rat.natCast_le_natCast.1 f1
    have h2 : ((m * 2 ^ p.toNat : Nat) : Rat) < ((N + 1 : Nat) : Rat) := by rw [Rat.natCast_add]; exact f2
    have h3 := Rat.natCast_lt_natCast.1 h2
    have h4 : m * 2 ^ p.toNat = N := by omega
    rw [h4]; grind

set_option maxHeartbeats 400000 in
/-- 'a - t >= 0.5'. -/
theorem half_cmp {q a t d : Nat} (hq : ru FloatKind.f64.format q < FloatKind.f64.format.infRung) (ha : ru FloatKind.f64.format a = ru FloatKind.f64.format q) (hs : sg FloatKind.f64.format a = false ∨ ru FloatKind.f64.format a = 0)
    (ht : Is t (flN (amt q)) 0) (hd : cw .f64 d = arithR .sub .f64 (cw .f64 a) (cw .f64 t)) :
    (FloatKind.f64.format.order d 4602678819172646912 == some .gt || FloatKind.f64.format.order d 4602678819172646912 == some .eq) = decide ((1 / 2 : Rat) ≤ amt q - (flN (amt q) : Rat)) := by
  rw [floatBits_cw] at hd
  obtain ⟨s, m, p, e, v, _⟩ := sub_fin .f64 (x := a) (y := t) (by rw [ha]; exact hq) ht.2.2.1
  rw [e] at hd
  have hd' := cw_out hd
  have hva : val .f64 a = amt q := by
    unfold amt
    rcases hs with h | h
    · unfold val; rw [h, ha]; rfl
    · unfold val; rw [ha] at h ⊢; rw [h, rval_zero]; split <;> simp
  have hvt : val .f64 t = (flN (amt q) : Rat) := by rw [ht.val]; unfold vOf; rw [pw_zero]; grind
  rw [hva, hvt] at v
  obtain ⟨f1, f2⟩ := flN_spec (v := amt q) (rval_nonneg _ _)
  have hex : ∃ M P, M < 2 ^ 53 ∧ -1074 ≤ P ∧ P ≤ 0 ∧ vOf M P = amt q - (flN (amt q) : Rat) := by
    obtain ⟨mq, pq, eq', vq⟩ := read_fin FloatKind.f64.format hq
    obtain ⟨g1, g2, _⟩ := read_mag FloatKind.f64.format q eq'
    rw [b64] at g1; rw [l64] at g2
    have vq' : vOf mq pq = amt q := vq
    rw [← vq'] at f1 f2 ⊢
    exact sub_floor_exact (by omega) g2 f1 f2
  obtain ⟨M, P, hM, hP, hP0, hMP⟩ := hex
  obtain ⟨x1, x2⟩ := rung_fits hM hP (by omega)
  have hvv : vOf m p = vOf M P ∧ (s = false ∨ vOf M P = 0) := by
    rw [← hMP] at v
    have h0 := vOf_nonneg M P
    have h1 := vOf_nonneg m p
    cases s
    · exact ⟨v, .inl rfl⟩
    · obtain ⟨h2, h3⟩ := neg_zero_of h0 h1 (show -(vOf m p) = vOf M P from v)
      exact ⟨h2, .inr h3⟩
  have hrd : ru FloatKind.f64.format d = rungOf FloatKind.f64.format M P := by
    rw [hd', ru_write, rung_congr _ hvv.1]; omega
  have hrv : rval FloatKind.f64.format (ru FloatKind.f64.format d) = amt q - (flN (amt q) : Rat) := by
    rw [hrd, x1, hMP]
  have hkd : key .f64 d = ru FloatKind.f64.format d := by
    rcases hvv.2 with h | h
    · exact key_pos .f64 (by rw [hd', sg_write]; exact h)
    · have hz : ru FloatKind.f64.format d = 0 := by rw [hrd, rung_zero _ h]
      rw [key_zero .f64 hz, hz]; rfl
  have hdle : ru FloatKind.f64.format d ≤ FloatKind.f64.format.infRung := by rw [hd', ru_write]; omega
  have h05 : ru FloatKind.f64.format 4602678819172646912 ≤ FloatKind.f64.format.infRung := by rw [chalf.1, i64]; decide
  rw [ord_gt .f64 hdle h05, ord_eq .f64 hdle h05, key_pos .f64 chalf.2.1, chalf.1, hkd, ← hrv, ← chalf_val]
  have h6 := @rval_lt_iff FloatKind.f64.format (ru FloatKind.f64.format d) 4602678819172646912
  rw [Bool.eq_iff_iff]
  simp only [Bool.or_eq_true, decide_eq_true_eq]
  constructor
  · intro h
    exact rval_le FloatKind.f64.format (by omega)
  · intro h
    have : ¬ ru FloatKind.f64.format d < 4602678819172646912 := fun h7 => by
      exact absurd h (Rat.not_le.2 (h6.2 h7))
    omega

/-- 't + 1'. -/
theorem Is.addOne {t r n : Nat} (h : Is t n 0) (hn : n < 2 ^ 52) (hr : _root_.Go.Proofs.YtldcciipicnooaaDoor.cw .f64 r = arithR .add .f64 (_root_.Go.Proofs.YtldcciipicnooaaDoor.cw .f64 t) (_root_.Go.Proofs.YtldcciipicnooaaDoor.cw .f64 4607182418800017408)) : Is r (n + 1) 0 := by
  rw [floatBits_cw] at hr
  obtain ⟨s, m, p, e, v, _⟩ := sum_fin .f64 (x := t) (y := 4607182418800017408) h.2.2.1 (by rw [one_ru.1, i64]; decide)
  rw [e] at hr
  have h1 : _root_.Go.Proofs.YtldcciipicnooaaDoor.val .f64 4607182418800017408 = 1 := by unfold _root_.Go.Proofs.YtldcciipicnooaaDoor.val; rw [one_ru.2, one_ru.1, one_val]; rfl
  have hv : sv s (vOf m p) = vOf (n + 1) 0 := by
    rw [v, h.val, h1]
    unfold vOf
    rw [pw_zero, Rat.natCast_add]; grind
  have h0 := vOf_pos (m := n + 1) 0 (by omega)
  have h2 := vOf_nonneg m p
  cases s
  · rw [cw_out hr]
    exact Is.write hv (by omega) (by omega) (by omega)
  · have h3 : -(vOf m p) = vOf (n + 1) 0 := hv
    grind

theorem toInt_is {t n : Nat} (h : Is t n 0) (hn : n ≤ 2000000000) : floatToIntVal .f64 t .i64 = some (n : Int) := by
  rw [toIntVal h.2.2.1 (by rw [h.int]; exact hn), h.int, h.2.1]; rfl
theorem toInt_neg {t n : Nat} (h : Is t n 0) (hn : n ≤ 2000000000) : floatToIntVal .f64 (Op.negFloat .f64 t) .i64 = some (-(n : Int)) := by
  have hl : t < 2 ^ FloatKind.f64.format.width := h.1
  rw [toIntVal (by rw [ru_neg .f64 hl]; exact h.2.2.1) (by rw [ru_neg .f64 hl, h.int]; exact hn), ru_neg .f64 hl, h.int, sg_neg .f64 hl, h.2.1]; rfl
end Go.Proofs.YtldcciipicnooaaDoor
