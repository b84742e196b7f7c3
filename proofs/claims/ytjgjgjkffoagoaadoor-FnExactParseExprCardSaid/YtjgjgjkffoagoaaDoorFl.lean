/- Floats for the walks: a word seen without the choice of NaN ('cw'), and the rules by which a walk takes one float operation. No program in sight. -/
import Derived.WalkKit
import Derived.WalkSpells
import Derived.WalkLawsBesides
import Derived.Deep.Draws
import Derived.Lib.Hide
namespace Go.Proofs.YtjgjgjkffoagoaaDoor
open Go.RowKit

/-- A word, 'none' for whichever NaN. -/
def cw (k : FloatKind) (b : Nat) : Option Nat := if (k.format.read b).isNaN then none else some b

theorem read_word (f : Ieee.Format) (neg : Bool) {rung : Nat} (h : rung < f.signWeight) : f.read (f.word neg rung) =
    if rung < f.binade then .number neg rung f.leastPlace else if rung < f.infRung then .number neg (f.binade + rung % f.binade) (f.leastPlace + (rung / f.binade - 1 : Nat))
    else if rung = f.infRung then .infinity neg else .nan neg (rung - f.infRung) := by
  have hs : 0 < f.signWeight := Nat.two_pow_pos _
  have h1 : f.word neg rung / f.signWeight % 2 = neg.toNat := by
    cases neg
    · simp [Ieee.Format.word, Nat.div_eq_of_lt h]
    · have : (f.signWeight + rung) / f.signWeight = 1 := by
        rw [Nat.add_div_left _ hs, Nat.div_eq_of_lt h]
      simp [Ieee.Format.word, this]
  have h2 : f.word neg rung % f.signWeight = rung := by
    cases neg
    · simp [Ieee.Format.word, Nat.mod_eq_of_lt h]
    · simp [Ieee.Format.word, Nat.mod_eq_of_lt h]
  unfold Ieee.Format.read
  simp only [h1, h2]
  cases neg <;> rfl

theorem binade_le (k : FloatKind) : k.format.binade ≤ k.format.infRung := by cases k <;> decide
theorem inf_lt (k : FloatKind) : k.format.infRung < k.format.signWeight := k.format.infRung_lt

theorem nan_word (k : FloatKind) (neg : Bool) {rung : Nat} (h : rung < k.format.signWeight) : (k.format.read (k.format.word neg rung)).isNaN = decide (k.format.infRung < rung) := by
  have hb := binade_le k
  rw [read_word _ neg h]
  split
  · simp [Ieee.Datum.isNaN]; omega
  · split
    · simp [Ieee.Datum.isNaN]; omega
    · split
      · simp [Ieee.Datum.isNaN]; omega
      · simp [Ieee.Datum.isNaN]; omega

theorem nearest_word (f : Ieee.Format) (neg : Bool) (mag : Nat) (place : Int) : ∃ r, r ≤ f.infRung ∧ f.nearest neg mag place = f.word neg r := by
  unfold Ieee.Format.nearest
  dsimp only
  split
  · exact ⟨0, Nat.zero_le _, rfl⟩
  · exact ⟨_, Nat.min_le_right _ _, rfl⟩

theorem cw_number (k : FloatKind) (neg : Bool) (mag : Nat) (place : Int) : cw k (k.format.write (.number neg mag place)) = some (k.format.write (.number neg mag place)) := by
  obtain ⟨r, hr, he⟩ := nearest_word k.format neg mag place
  show cw k (k.format.nearest neg mag place) = some (k.format.nearest neg mag place)
  rw [he]
  have := inf_lt k
  unfold cw
  rw [nan_word k neg (by omega)]
  simp; omega
theorem cw_infinity (k : FloatKind) (neg : Bool) : cw k (k.format.write (.infinity neg)) = some (k.format.write (.infinity neg)) := by
  show cw k (k.format.word neg k.format.infRung) = some (k.format.word neg k.format.infRung)
  have := inf_lt k
  unfold cw
  rw [nan_word k neg (by omega)]
  simp

/-- A datum that is no NaN. -/
theorem cw_write (k : FloatKind) {d : Ieee.Datum} (h : d.isNaN = false) : cw k (k.format.write d) = some (k.format.write d) := by
  cases d with
  | number neg mag place => exact cw_number ..
  | infinity neg => exact cw_infinity ..
  | nan neg t => simp [Ieee.Datum.isNaN] at h

theorem sum_nan {d e r : Ieee.Datum} (h : d.sum e = some r) : r.isNaN = false := by
  unfold Ieee.Datum.sum at h
  split at h <;> first | (cases h; done) | (cases h; rfl) | skip
  · split at h
    · cases h; rfl
    · cases h
theorem product_nan {d e r : Ieee.Datum} (h : d.product e = some r) : r.isNaN = false := by
  unfold Ieee.Datum.product at h
  split at h <;> first | (cases h; done) | (cases h; rfl) | skip
  all_goals (split at h <;> first | (cases h; done) | (cases h; rfl))
theorem quotient_nan {n : Nat} {d e r : Ieee.Datum} (h : d.quotient n e = some r) : r.isNaN = false := by
  unfold Ieee.Datum.quotient at h
  split at h <;> first | (cases h; done) | (cases h; rfl) | skip
  split at h
  · split at h <;> first | (cases h; done) | (cases h; rfl)
  · cases h; rfl

/-- '+', '-', '*', '/' on what the words are, whichever NaN. -/
def arithR (op : BinOp) (k : FloatKind) : Option Nat → Option Nat → Option Nat
  | some x, some y => floatBits op k x y
  | _, _ => none

theorem isNaN_cases (d : Ieee.Datum) : d.isNaN = true ↔ ∃ s t, d = .nan s t := by
  cases d <;> simp [Ieee.Datum.isNaN]

theorem floatBits_nan_left (op : BinOp) (k : FloatKind) (x y : Nat) (h : (k.format.read x).isNaN = true) : floatBits op k x y = none := by
  obtain ⟨s, t, e⟩ := (isNaN_cases _).1 h
  unfold floatBits
  cases op <;> simp only [Ieee.Format.add, Ieee.Format.sub, Ieee.Format.mul, Ieee.Format.div, e] <;> first | rfl | (simp [Ieee.Datum.sum, Ieee.Datum.product, Ieee.Datum.quotient]; done)
theorem floatBits_nan_right (op : BinOp) (k : FloatKind) (x y : Nat) (h : (k.format.read y).isNaN = true) : floatBits op k x y = none := by
  obtain ⟨s, t, e⟩ := (isNaN_cases _).1 h
  unfold floatBits
  cases op <;> simp only [Ieee.Format.add, Ieee.Format.sub, Ieee.Format.mul, Ieee.Format.div, e, Ieee.Datum.opposite] <;> first | rfl | (cases k.format.read x <;> simp [Ieee.Datum.sum, Ieee.Datum.product, Ieee.Datum.quotient]; done)

theorem floatBits_cw (op : BinOp) (k : FloatKind) (x y : Nat) : arithR op k (cw k x) (cw k y) = floatBits op k x y := by
  unfold cw
  by_cases hx : (k.format.read x).isNaN = true
  · rw [if_pos hx, floatBits_nan_left op k x y hx]; rfl
  · by_cases hy : (k.format.read y).isNaN = true
    · rw [if_pos hy, floatBits_nan_right op k x y hy, if_neg hx]; rfl
    · rw [if_neg hx, if_neg hy]; rfl

theorem map_write_cw {k : FloatKind} {o : Option Ieee.Datum} {r : Nat} (h : o.map k.format.write = some r) (hn : ∀ d, o = some d → d.isNaN = false) : cw k r = some r := by
  cases o with
  | none => cases h
  | some d => cases h; exact cw_write k (hn d rfl)

theorem floatBits_num {op : BinOp} {k : FloatKind} {x y r : Nat} (h : floatBits op k x y = some r) : cw k r = some r := by
  unfold floatBits at h
  split at h
  · exact map_write_cw h fun d hd => sum_nan hd
  · exact map_write_cw h fun d hd => sum_nan hd
  · exact map_write_cw h fun d hd => product_nan hd
  · exact map_write_cw h fun d hd => quotient_nan hd
  · cases h

/-- Whatever the tape answers for a NaN is one. -/
theorem cut_nan (k : FloatKind) (x y t : Nat) : cw k ((Question.nanBits k x y).cut t) = none ∧ (Question.nanBits k x y).cut t < 2 ^ k.format.width := by
  cases k
  · have e : (Question.nanBits .f32 x y).cut t = FloatKind.f32.format.word (decide (t % 2 = 1)) (2139095040 + 1 + (t / 2) % 8388607) := by
      rcases Nat.mod_two_eq_zero_or_one t with h | h <;> simp only [Question.cut, h, Ieee.Format.word, Ieee.Format.signWeight, FloatKind.format, Ieee.single] <;> simp <;> omega
    have hs : FloatKind.f32.format.signWeight = 2147483648 := by decide
    have hi : FloatKind.f32.format.infRung = 2139095040 := by decide
    have hw : FloatKind.f32.format.width = 32 := by decide
    rw [e]
    refine ⟨?_, FloatKind.f32.format.word_lt _ (by rw [hs]; omega)⟩
    unfold cw
    rw [nan_word .f32 _ (by rw [hs]; omega), hi, if_pos (by simp; omega)]
  · have e : (Question.nanBits .f64 x y).cut t = FloatKind.f64.format.word (decide (t % 2 = 1)) (9218868437227405312 + 1 + (t / 2) % 4503599627370495) := by
      rcases Nat.mod_two_eq_zero_or_one t with h | h <;> simp only [Question.cut, h, Ieee.Format.word, Ieee.Format.signWeight, FloatKind.format, Ieee.double] <;> simp <;> omega
    have hs : FloatKind.f64.format.signWeight = 9223372036854775808 := by decide
    have hi : FloatKind.f64.format.infRung = 9218868437227405312 := by decide
    rw [e]
    refine ⟨?_, FloatKind.f64.format.word_lt _ (by rw [hs]; omega)⟩
    unfold cw
    rw [nan_word .f64 _ (by rw [hs]; omega), hi, if_pos (by simp; omega)]
theorem cut_nanConv (k : FloatKind) (x t : Nat) : cw k ((Question.nanConv k x).cut t) = none ∧ (Question.nanConv k x).cut t < 2 ^ k.format.width := by
  have h := cut_nan k 0 0 t
  cases k <;> exact h

def isArith : BinOp → Bool
  | .add | .sub | .mul | .quo => true
  | _ => false

theorem run_floatArith (P : Program) (w : World) (op : BinOp) (hop : isArith op = true) (k : FloatKind) (x y : Nat) :
    ∃ r n, (Op.floatArith op k x y).run P w = .ok (.float k r) (w.drewN n) ∧ cw k r = arithR op k (cw k x) (cw k y) ∧ r < 2 ^ k.format.width := by
  rw [floatBits_cw]
  cases hr : floatBits op k x y with
  | some r =>
    refine ⟨r, 0, ?_, floatBits_num hr, ?_⟩
    · unfold floatBits at hr
      cases op <;> simp only at hr <;> first | (cases hr; done) | skip
      all_goals simp [Op.floatArith, hr, World.drewN_zero]
    · unfold floatBits at hr
      split at hr
      · exact k.format.add_lt hr
      · exact k.format.sub_lt hr
      · exact k.format.mul_lt hr
      · exact k.format.div_lt hr
      · cases hr
  | none =>
    obtain ⟨h1, h2⟩ := cut_nan k x y (w.tape w.drawn (.nanBits k x y))
    refine ⟨_, 1, ?_, h1, h2⟩
    unfold floatBits at hr
    cases op <;> simp only [isArith] at hop hr <;> first | (cases hop; done) | skip
    all_goals simp [Op.floatArith, hr, choose, Sem.run, Question.forced, World.drewN, pure, bind, Sem.bind]

theorem run_fbin (P : Program) (w : World) (op : BinOp) (hop : isArith op = true) (t : TypeId) (k : FloatKind) (x y : Nat) :
    ∃ r n, (binOp op t (.float k x) (.float k y)).run P w = .ok (.float k r) (w.drewN n) ∧ cw k r = arithR op k (cw k x) (cw k y) ∧ r < 2 ^ k.format.width := by
  obtain ⟨r, n, h, h2⟩ := run_floatArith P w op hop k x y
  refine ⟨r, n, ?_, h2⟩
  rw [← h]
  cases op <;> simp only [isArith] at hop <;> first | (cases hop; done) | simp [binOp]

theorem wpList_want {P : Program} {ops : Array Oper} {rest : List Oper} {o : Oper} {a : Act} {w : World} {Q : Exit → Act → World → Prop} (hw : Region.wanted o (yielded ops a.tmps) = true)
    (h : ∀ K : Act → World → Prop, (∀ a w, wpList P ops Q rest a w → K a w) → o.wp P a w K Q) : wpList P ops Q (o :: rest) a w :=
  wpList_step fun K hK => by rw [if_pos hw]; exact h K hK

/-- THE WALK's RULE: one '+', '-', '*', '/' on floats, whichever NaN. 'dd': the slot. -/
theorem wpl_farith {P : Program} {ops : Array Oper} {rest : List Oper} {o : Oper} {a : Act} {w : World} {Q : Exit → Act → World → Prop} (dd : Tmp) {op : BinOp} {t t2 : TypeId} {x y : Operand} {k : FloatKind} {bx bY : Nat}
    (hgd : Region.wanted o (yielded ops a.tmps) = true) (hdst : o.dst = some dd) (ho : o.op = .binOp op t x y t2)
    (hop : isArith op = true) (hx : a.eval x = .float k bx) (hy : a.eval y = .float k bY)
    (h : ∀ r n, Hid (cw k r = arithR op k (cw k bx) (cw k bY) ∧ r < 2 ^ k.format.width) → wpList P ops Q rest (a.put (some dd) (.float k r)) (w.drewN n)) :
    wpList P ops Q (o :: rest) a w := by
  refine wpList_want hgd fun K hK => ?_
  obtain ⟨r, n, hr, hc⟩ := run_fbin P w op hop t k bx bY
  have hr' : (execOp a.eval o).run P w = .ok (.value (.float k r)) (w.drewN n) := by
    have hg : eqGuard op t x y (a.eval x) (a.eval y) = pure () := by
      cases op <;> simp only [isArith] at hop <;> first | (cases hop; done) | rfl
    rw [hx, hy] at hg
    simp [execOp, ho, hg, hx, hy, hr]
  unfold Oper.wp
  rw [hr']
  show K (a.put o.dst (.float k r)) (w.drewN n)
  rw [hdst]
  exact hK _ _ (h r n hc)

/-- 'float64(x)' of a float32. -/
def widen : Option Nat → Option Nat := Option.map fun b => FloatKind.f64.format.write (FloatKind.f32.format.read b)

theorem run_widen (P : Program) (w : World) (src dst : TypeId) (hs : (P.underlying src).isSome = true) (hd : P.underlying dst = some (.float .f64)) (b : Nat)
    (hfin : ∀ s m e, FloatKind.f32.format.read b = .number s m e → (FloatKind.f64.format.read (FloatKind.f64.format.write (.number s m e))).isInfinity = false) :
    ∃ r n, (convert src dst (.float .f32 b)).run P w = .ok (.float .f64 r) (w.drewN n) ∧ cw .f64 r = widen (cw .f32 b) ∧ r < 2 ^ 64 := by
  obtain ⟨u, hs'⟩ := Option.isSome_iff_exists.1 hs
  have hrun : (convert src dst (.float .f32 b)).run P w = (Conv.floatToFloat .f32 b .f64).run P w := by
    cases u <;> simp [convert, run_underlying hs', run_underlying hd]
  rw [hrun]
  cases hd : FloatKind.f32.format.read b with
  | number s m e =>
    refine ⟨FloatKind.f64.format.write (.number s m e), 0, ?_, ?_, FloatKind.f64.format.write_lt _⟩
    · have hi := hfin s m e hd
      have hd' : FloatKind.f32.decode b = .number s m e := hd
      have hi' : (FloatKind.f64.decode (FloatKind.f64.encode (.number s m e))).isInfinity = false := hi
      simp [Conv.floatToFloat, hd', hi', World.drewN_zero]
      rfl
    · rw [cw_number]
      simp [widen, cw, hd, Ieee.Datum.isNaN]
  | infinity s =>
    refine ⟨FloatKind.f64.format.write (.infinity s), 0, ?_, ?_, FloatKind.f64.format.write_lt _⟩
    · have hd' : FloatKind.f32.decode b = .infinity s := hd
      simp [Conv.floatToFloat, hd', World.drewN_zero]
      rfl
    · rw [cw_infinity]
      simp [widen, cw, hd, Ieee.Datum.isNaN]
  | nan s t =>
    obtain ⟨h1, h2⟩ := cut_nanConv .f64 b (w.tape w.drawn (.nanConv .f64 b))
    refine ⟨_, 1, ?_, ?_, h2⟩
    · have hd' : FloatKind.f32.decode b = .nan s t := hd
      simp [Conv.floatToFloat, hd', choose, Sem.run, Question.forced, World.drewN, pure, bind, Sem.bind]
    · rw [h1]
      simp [widen, cw, hd, Ieee.Datum.isNaN]

/-- A single's number is never too great for a double. -/
theorem read_mag (f : Ieee.Format) (b : Nat) {s : Bool} {m : Nat} {e : Int} (h : f.read b = .number s m e) : m < 2 * f.binade ∧ f.leastPlace ≤ e ∧ e ≤ f.leastPlace + ((f.infRung / f.binade - 2 : Nat) : Int) := by
  have hb : 0 < f.binade := Nat.two_pow_pos _
  unfold Ieee.Format.read at h
  simp only at h
  split at h
  · rename_i hlt; cases h; omega
  · rename_i h1
    split at h
    · rename_i h2; cases h
      have hm := Nat.mod_lt (b % f.signWeight) hb
      have hd : b % f.signWeight / f.binade < f.infRung / f.binade := by
        rw [Nat.div_lt_iff_lt_mul hb]
        unfold Ieee.Format.infRung at h2 ⊢
        rw [Nat.mul_div_cancel _ hb]; exact h2
      refine ⟨by omega, by omega, by omega⟩
    · split at h <;> cases h
end Go.Proofs.YtjgjgjkffoagoaaDoor
