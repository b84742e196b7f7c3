/- Conversions and arithmetic of floats by sign, rung and value. No program in sight. -/
import Derived.Test.YtjgjgjkffoagoaaDoorFlw
namespace Go.Proofs.YtjgjgjkffoagoaaDoor
open Go.RowKit

section
variable (k : FloatKind)
theorem write_number (s : Bool) (m : Nat) (p : Int) : k.format.write (.number s m p) = k.format.word s (min (rungOf k.format m p) k.format.infRung) := nearest_eq k.format s m p
theorem sg_write (s : Bool) (m : Nat) (p : Int) : sg k.format (k.format.write (.number s m p)) = s := by
  have := inf_lt k
  rw [write_number, sg_word _ _ (by omega)]
theorem ru_write (s : Bool) (m : Nat) (p : Int) : ru k.format (k.format.write (.number s m p)) = min (rungOf k.format m p) k.format.infRung := by
  have := inf_lt k
  rw [write_number, ru_word _ _ (by omega)]

/-- A number with few digits is not changed by rounding, but for its size. -/
theorem rval_exact (f : Ieee.Format) (m : Nat) (p : Int) (hm : m < 2 * f.binade) (hp : f.leastPlace ≤ p) : rval f (rungOf f m p) = vOf m p := by
  by_cases h0 : m = 0
  · subst h0
    rw [vOf_zero]; unfold rungOf; simp [rval_zero]
  · rw [rval_rung f m p h0]
    have hl : lastOf f m p ≤ p := by
      have h4 : m < 2 ^ (f.fractionBits + 1) := by rw [Nat.pow_succ]; unfold Ieee.Format.binade at hm; omega
      have := log2_le_of h4 h0
      unfold lastOf; omega
    unfold keptOf
    rw [show (lastOf f m p - p).toNat = 0 by omega, cut_zero, Nat.shiftLeft_eq, vOf_shift]
    congr 1; omega

/-- The number at which infinity begins. -/
theorem rval_inf : rval k.format k.format.infRung = pw (match k with | .f32 => 128 | .f64 => 1024) := by
  cases k
  · have e : expo FloatKind.f32.format FloatKind.f32.format.infRung = 254 := by decide
    have s : FloatKind.f32.format.infRung - 254 * FloatKind.f32.format.binade = 1 * 2 ^ 23 := by decide
    have l : FloatKind.f32.format.leastPlace = -149 := by decide
    unfold rval
    rw [e, s, vOf_shift, l]
    unfold vOf
    simp
  · have e : expo FloatKind.f64.format FloatKind.f64.format.infRung = 2046 := by decide
    have s : FloatKind.f64.format.infRung - 2046 * FloatKind.f64.format.binade = 1 * 2 ^ 52 := by decide
    have l : FloatKind.f64.format.leastPlace = -1074 := by decide
    unfold rval
    rw [e, s, vOf_shift, l]
    unfold vOf
    simp
end

theorem read_f32 {b : Nat} {s : Bool} {m : Nat} {e : Int} (h : FloatKind.f32.format.read b = .number s m e) : m < 16777216 ∧ -149 ≤ e ∧ e ≤ 104 := by
  obtain ⟨h1, h2, h3⟩ := read_mag FloatKind.f32.format b h
  have a1 : FloatKind.f32.format.binade = 8388608 := by decide
  have a2 : FloatKind.f32.format.leastPlace = -149 := by decide
  have a3 : FloatKind.f32.format.infRung / FloatKind.f32.format.binade = 255 := by decide
  rw [a1] at h1; rw [a2] at h2 h3; rw [a3] at h3
  omega

/-- A single's number, as a double. -/
theorem rung_widen {m : Nat} {e : Int} (h1 : m < 16777216) (h2 : -149 ≤ e) (h3 : e ≤ 104) : rval FloatKind.f64.format (rungOf FloatKind.f64.format m e) = vOf m e ∧ rungOf FloatKind.f64.format m e < FloatKind.f64.format.infRung := by
  have a1 : FloatKind.f64.format.binade = 4503599627370496 := by decide
  have a2 : FloatKind.f64.format.leastPlace = -1074 := by decide
  have h := rval_exact FloatKind.f64.format m e (by omega) (by omega)
  refine ⟨h, ?_⟩
  rw [← rval_lt_iff FloatKind.f64.format, h, rval_inf]
  have hm : (m : Rat) < pw (24 : Nat) := by
    rw [pw_nat]; exact_mod_cast (show m < 2 ^ 24 by omega)
  have hlt : vOf m e < pw (24 : Nat) * pw e := Rat.mul_lt_mul_of_pos_right hm (pw_pos e)
  rw [← pw_add] at hlt
  have hle : pw ((24 : Nat) + e) ≤ pw 1024 := pw_le (by omega)
  grind

theorem widen_fin {b : Nat} (hb : ru FloatKind.f32.format b < FloatKind.f32.format.infRung) :
    ∃ r, r = FloatKind.f64.format.write (FloatKind.f32.format.read b) ∧ sg FloatKind.f64.format r = sg FloatKind.f32.format b ∧ ru FloatKind.f64.format r < FloatKind.f64.format.infRung ∧ val .f64 r = val .f32 b := by
  obtain ⟨m, p, e, v⟩ := read_fin _ hb
  obtain ⟨h1, h2, h3⟩ := read_f32 e
  obtain ⟨w1, w2⟩ := rung_widen h1 h2 h3
  refine ⟨_, rfl, ?_, ?_, ?_⟩
  · rw [e, sg_write]
  · rw [e, ru_write]; omega
  · unfold val
    rw [e, sg_write, ru_write, Nat.min_eq_left (by omega), w1, v]

theorem widen_no_inf (b : Nat) (s : Bool) (m : Nat) (e : Int) (h : FloatKind.f32.format.read b = .number s m e) : (FloatKind.f64.format.read (FloatKind.f64.format.write (.number s m e))).isInfinity = false := by
  obtain ⟨h1, h2, h3⟩ := read_f32 h
  obtain ⟨_, w2⟩ := rung_widen h1 h2 h3
  obtain ⟨m', p', e', _⟩ := read_fin FloatKind.f64.format (b := FloatKind.f64.format.write (.number s m e)) (by rw [ru_write]; omega)
  rw [e']; rfl

/-- THE WALK's RULE: 'float64(x)' of a float32. -/
theorem wpl_widen {P : Program} {ops : Array Oper} {rest : List Oper} {o : Oper} {a : Act} {w : World} {Q : Exit → Act → World → Prop} (dd : Tmp) {src dst : TypeId} {x : Operand} {b : Nat} {u : TypeDesc}
    (hs : P.underlying src = some u) (hd : P.underlying dst = some (.float .f64)) (hgd : Region.wanted o (yielded ops a.tmps) = true) (hdst : o.dst = some dd) (ho : o.op = .convert src dst x) (hx : a.eval x = .float .f32 b)
    (h : ∀ r n, Hid (cw .f64 r = widen (cw .f32 b) ∧ r < 2 ^ 64) → wpList P ops Q rest (a.put (some dd) (.float .f64 r)) (w.drewN n)) :
    wpList P ops Q (o :: rest) a w := by
  refine wpList_want hgd fun K hK => ?_
  obtain ⟨r, n, hr, hc⟩ := run_widen P w src dst (by rw [hs]; rfl) hd b (widen_no_inf b)
  have hr' : (execOp a.eval o).run P w = .ok (.value (.float .f64 r)) (w.drewN n) := by
    simp [execOp, ho, hx, hr]
  unfold Oper.wp
  rw [hr']
  show K (a.put o.dst (.float .f64 r)) (w.drewN n)
  rw [hdst]
  exact hK _ _ (h r n hc)

/-- What 'float32(x)' of a float64 may give: of a NaN one; of a number past the singles whatever word; else the nearest. -/
def Narrow (x y : Option Nat) : Prop :=
  match x with
  | none => y = none
  | some b => match FloatKind.f64.format.read b with
    | .number s m p => (rungOf FloatKind.f32.format m p < FloatKind.f32.format.infRung → y = some (FloatKind.f32.format.write (.number s m p)))
    | .infinity s => y = some (FloatKind.f32.format.write (.infinity s))
    | .nan _ _ => True

theorem run_narrow (P : Program) (w : World) (src dst : TypeId) (hs : (P.underlying src).isSome = true) (hd : P.underlying dst = some (.float .f32)) (b : Nat) :
    ∃ r n, (convert src dst (.float .f64 b)).run P w = .ok (.float .f32 r) (w.drewN n) ∧ Narrow (cw .f64 b) (cw .f32 r) ∧ r < 2 ^ 32 := by
  obtain ⟨u, hs'⟩ := Option.isSome_iff_exists.1 hs
  have hrun : (convert src dst (.float .f64 b)).run P w = (Conv.floatToFloat .f64 b .f32).run P w := by
    cases u <;> simp [convert, run_underlying hs', run_underlying hd]
  rw [hrun]
  cases hd : FloatKind.f64.format.read b with
  | number s m e =>
    have hd' : FloatKind.f64.decode b = .number s m e := hd
    have hcw : cw .f64 b = some b := by simp [cw, hd, Ieee.Datum.isNaN]
    by_cases hinf : (FloatKind.f32.format.read (FloatKind.f32.format.write (.number s m e))).isInfinity = true
    · have hi' : (FloatKind.f32.decode (FloatKind.f32.encode (.number s m e))).isInfinity = true := hinf
      refine ⟨(Question.floatToFloat b).cut (w.tape w.drawn (.floatToFloat b)), 1, ?_, ?_, Nat.mod_lt _ (by decide)⟩
      · simp [Conv.floatToFloat, hd', hi', choose, Sem.run, Question.forced, World.drewN, pure, bind, Sem.bind]
      · rw [hcw]
        simp only [Narrow, hd]
        intro hlt
        exfalso
        obtain ⟨m', p', e', _⟩ := read_fin FloatKind.f32.format (b := FloatKind.f32.format.write (.number s m e)) (by rw [ru_write]; omega)
        rw [e'] at hinf; cases hinf
    · have hi' : (FloatKind.f32.decode (FloatKind.f32.encode (.number s m e))).isInfinity = false := Bool.eq_false_iff.2 hinf
      refine ⟨FloatKind.f32.format.write (.number s m e), 0, ?_, ?_, FloatKind.f32.format.write_lt _⟩
      · simp [Conv.floatToFloat, hd', hi', World.drewN_zero]
        rfl
      · rw [hcw, cw_number]
        simp only [Narrow, hd]
        intro _; trivial
  | infinity s =>
    have hd' : FloatKind.f64.decode b = .infinity s := hd
    have hcw : cw .f64 b = some b := by simp [cw, hd, Ieee.Datum.isNaN]
    refine ⟨FloatKind.f32.format.write (.infinity s), 0, ?_, ?_, FloatKind.f32.format.write_lt _⟩
    · simp [Conv.floatToFloat, hd', World.drewN_zero]
      rfl
    · rw [hcw, cw_infinity]
      simp only [Narrow, hd]
  | nan s t =>
    obtain ⟨h1, h2⟩ := cut_nanConv .f32 b (w.tape w.drawn (.nanConv .f32 b))
    have hd' : FloatKind.f64.decode b = .nan s t := hd
    refine ⟨_, 1, ?_, ?_, h2⟩
    · simp [Conv.floatToFloat, hd', choose, Sem.run, Question.forced, World.drewN, pure, bind, Sem.bind]
    · rw [h1]
      simp [Narrow, cw, hd, Ieee.Datum.isNaN]

/-- THE WALK's RULE: 'float32(x)' of a float64. -/
theorem wpl_narrow {P : Program} {ops : Array Oper} {rest : List Oper} {o : Oper} {a : Act} {w : World} {Q : Exit → Act → World → Prop} (dd : Tmp) {src dst : TypeId} {x : Operand} {b : Nat} {u : TypeDesc}
    (hs : P.underlying src = some u) (hd : P.underlying dst = some (.float .f32)) (hgd : Region.wanted o (yielded ops a.tmps) = true) (hdst : o.dst = some dd) (ho : o.op = .convert src dst x) (hx : a.eval x = .float .f64 b)
    (h : ∀ r n, Hid (Narrow (cw .f64 b) (cw .f32 r) ∧ r < 2 ^ 32) → wpList P ops Q rest (a.put (some dd) (.float .f32 r)) (w.drewN n)) :
    wpList P ops Q (o :: rest) a w := by
  refine wpList_want hgd fun K hK => ?_
  obtain ⟨r, n, hr, hc⟩ := run_narrow P w src dst (by rw [hs]; rfl) hd b
  have hr' : (execOp a.eval o).run P w = .ok (.value (.float .f32 r)) (w.drewN n) := by
    simp [execOp, ho, hx, hr]
  unfold Oper.wp
  rw [hr']
  show K (a.put o.dst (.float .f32 r)) (w.drewN n)
  rw [hdst]
  exact hK _ _ (h r n hc)
end Go.Proofs.YtjgjgjkffoagoaaDoor
