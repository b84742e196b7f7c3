/- Evaluation and conjugates: with every sign of an imaginary part turned, evaluation gives the conjugate, whichever sign a zero has. No program in sight. -/
import Derived.Test.YtjacimccpadgeaaPlain
namespace Go.Proofs.Ytjacimccpadgeaa
open Go.RowKit
set_option maxRecDepth 100000
set_option maxHeartbeats 4000000
set_option linter.unusedVariables false
set_option linter.unusedSimpArgs false

/-- The same datum with its sign turned by S, whichever sign a zero has. -/
def DR (S : Bool) : Ieee.Datum → Ieee.Datum → Prop
  | .number s m p, .number s' m' p' => m = m' ∧ p = p' ∧ (m ≠ 0 → s' = (s ^^ S))
  | .infinity s, .infinity s' => s' = (s ^^ S)
  | .nan _ _, .nan _ _ => True
  | _, _ => False
def OD (S : Bool) : Option Ieee.Datum → Option Ieee.Datum → Prop
  | none, none => True
  | some d, some d' => DR S d d' ∧ d.isNaN = false
  | _, _ => False
def sgZ (S : Bool) (t : Int) : Int := if S then -t else t
theorem signed_turn {S s s' : Bool} {m : Nat} (u : Nat) (h : m ≠ 0 → s' = (s ^^ S)) : Ieee.signed s' m u = sgZ S (Ieee.signed s m u) := by
  by_cases hm : m = 0
  · subst hm
    unfold Ieee.signed sgZ
    simp
  · rw [h hm]
    unfold Ieee.signed sgZ
    cases s <;> cases S <;> simp
theorem DR.opp {S : Bool} {d d' : Ieee.Datum} (h : DR S d d') : DR S d.opposite d'.opposite := by
  cases d <;> cases d' <;> simp only [DR, Ieee.Datum.opposite] at h ⊢
  · exact ⟨h.1, h.2.1, fun hm => by rw [h.2.2 hm]; simp⟩
  · rw [h]; simp
theorem DR.sum {S : Bool} {d d' e e' : Ieee.Datum} (h : DR S d d') (h' : DR S e e') : OD S (d.sum e) (d'.sum e') := by
  cases d with
  | nan s t => cases d' <;> simp only [DR] at h; cases e <;> cases e' <;> trivial
  | infinity s =>
    cases d' <;> simp only [DR] at h
    cases e with
    | nan t r => cases e' <;> simp only [DR] at h' <;> trivial
    | infinity t =>
      cases e' <;> simp only [DR] at h'
      rename_i s' t'
      subst h h'
      simp only [Ieee.Datum.sum]
      by_cases hst : s = t
      · subst hst; rw [if_pos rfl, if_pos rfl]; exact ⟨rfl, rfl⟩
      · rw [if_neg hst, if_neg (fun he => hst (by revert he; cases s <;> cases t <;> cases S <;> simp))]; trivial
    | number t n j => cases e' <;> simp only [DR] at h'; exact ⟨h, rfl⟩
  | number s m i =>
    cases d' <;> simp only [DR] at h
    cases e with
    | nan t r => cases e' <;> simp only [DR] at h' <;> trivial
    | infinity t => cases e' <;> simp only [DR] at h'; exact ⟨h', rfl⟩
    | number t n j =>
      cases e' <;> simp only [DR] at h'
      obtain ⟨rfl, rfl, hs⟩ := h
      obtain ⟨rfl, rfl, ht⟩ := h'
      simp only [Ieee.Datum.sum, OD, DR]
      rw [signed_turn _ hs, signed_turn _ ht]
      generalize Ieee.signed s m _ = a
      generalize Ieee.signed t n _ = b
      have e : sgZ S a + sgZ S b = sgZ S (a + b) := by unfold sgZ; split <;> omega
      rw [e]
      refine ⟨⟨?_, (by first | rfl | trivial), fun hm => ?_⟩, (by first | rfl | trivial)⟩
      · unfold sgZ; split <;> omega
      · have h0 : a + b ≠ 0 := by omega
        have h1 : sgZ S (a + b) ≠ 0 := by unfold sgZ; split <;> omega
        rw [if_neg h0, if_neg h1]
        cases S
        · simp [sgZ]
        · simp only [sgZ, if_true, Bool.xor_true]
          by_cases hl : a + b < 0
          · rw [decide_eq_true hl, decide_eq_false (by omega)]; rfl
          · rw [decide_eq_false hl, decide_eq_true (by omega)]; rfl
theorem xor4 (s t S T : Bool) : ((s ^^ S) ^^ (t ^^ T)) = ((s ^^ t) ^^ (S ^^ T)) := by cases s <;> cases t <;> cases S <;> cases T <;> rfl
theorem DR.product {S T : Bool} {d d' e e' : Ieee.Datum} (h : DR S d d') (h' : DR T e e') : OD (S ^^ T) (d.product e) (d'.product e') := by
  cases d with
  | nan s t => cases d' <;> simp only [DR] at h; cases e <;> cases e' <;> trivial
  | infinity s =>
    cases d' <;> simp only [DR] at h
    cases e with
    | nan t r => cases e' <;> simp only [DR] at h' <;> trivial
    | infinity t => cases e' <;> simp only [DR] at h'; subst h h'; exact ⟨xor4 s t S T, rfl⟩
    | number t n j =>
      cases e' <;> simp only [DR] at h'
      obtain ⟨rfl, rfl, ht⟩ := h'
      subst h
      simp only [Ieee.Datum.product]
      by_cases hn : n = 0
      · rw [if_pos hn, if_pos hn]; trivial
      · rw [if_neg hn, if_neg hn, ht hn]; exact ⟨xor4 s t S T, rfl⟩
  | number s m i =>
    cases d' <;> simp only [DR] at h
    obtain ⟨rfl, rfl, hs⟩ := h
    cases e with
    | nan t r => cases e' <;> simp only [DR] at h' <;> trivial
    | infinity t =>
      cases e' <;> simp only [DR] at h'
      subst h'
      simp only [Ieee.Datum.product]
      by_cases hm : m = 0
      · rw [if_pos hm, if_pos hm]; trivial
      · rw [if_neg hm, if_neg hm, hs hm]
        refine ⟨?_, rfl⟩
        show ((t ^^ T) ^^ (s ^^ S)) = ((t ^^ s) ^^ (S ^^ T))
        rw [xor4, Bool.xor_comm S T]
    | number t n j =>
      cases e' <;> simp only [DR] at h'
      obtain ⟨rfl, rfl, ht⟩ := h'
      refine ⟨⟨rfl, rfl, fun hmn => ?_⟩, rfl⟩
      have hm : m ≠ 0 := fun h0 => hmn (by rw [h0, Nat.zero_mul])
      have hn : n ≠ 0 := fun h0 => hmn (by rw [h0, Nat.mul_zero])
      rw [hs hm, ht hn]
      exact xor4 s t S T
/-- Not a zero. -/
def NZ : Ieee.Datum → Prop
  | .number _ m _ => m ≠ 0
  | _ => True
theorem DR.quotient {S T : Bool} {d d' e e' : Ieee.Datum} (k : Nat) (h : DR S d d') (h' : DR T e e') (hz : NZ e) : OD (S ^^ T) (d.quotient k e) (d'.quotient k e') := by
  cases d with
  | nan s t => cases d' <;> simp only [DR] at h; cases e <;> cases e' <;> trivial
  | infinity s =>
    cases d' <;> simp only [DR] at h
    cases e with
    | nan t r => cases e' <;> simp only [DR] at h' <;> trivial
    | infinity t => cases e' <;> simp only [DR] at h'; trivial
    | number t n j =>
      cases e' <;> simp only [DR] at h'
      obtain ⟨rfl, rfl, ht⟩ := h'
      subst h
      rw [ht hz]
      exact ⟨xor4 s t S T, rfl⟩
  | number s m i =>
    cases d' <;> simp only [DR] at h
    obtain ⟨rfl, rfl, hs⟩ := h
    cases e with
    | nan t r => cases e' <;> simp only [DR] at h' <;> trivial
    | infinity t => cases e' <;> simp only [DR] at h'; exact ⟨⟨rfl, rfl, fun h0 => absurd rfl h0⟩, rfl⟩
    | number t n j =>
      cases e' <;> simp only [DR] at h'
      obtain ⟨rfl, rfl, ht⟩ := h'
      have hn : n ≠ 0 := hz
      simp only [Ieee.Datum.quotient]
      rw [if_neg hn, if_neg hn]
      refine ⟨⟨rfl, rfl, fun hmn => ?_⟩, rfl⟩
      have hm : m ≠ 0 := fun h0 => hmn (by subst h0; simp)
      rw [hs hm, ht hn]
      exact xor4 s t S T

/-! ### Words -/
abbrev F64 : Ieee.Format := FloatKind.f64.format
/-- The same word with its sign turned by S, whichever sign a zero has. -/
def WR (S : Bool) (a a' : Nat) : Prop := ru F64 a' = ru F64 a ∧ (ru F64 a ≠ 0 → sg F64 a' = (sg F64 a ^^ S))
theorem WR.read {S : Bool} {a a' : Nat} (h : WR S a a') : DR S (F64.read a) (F64.read a') := by
  obtain ⟨h1, h2⟩ := h
  have hb := binade_pos F64
  rw [read_eq, read_eq, h1]
  split
  · exact ⟨rfl, rfl, h2⟩
  · split
    · exact ⟨rfl, rfl, fun _ => h2 (by omega)⟩
    · split
      · exact h2 (by rename_i h3 h4 h5; have := i64; intro h0; have h6 : FloatKind.f64.format.infRung = 0 := by rw [← h5]; exact h0
                     omega)
      · trivial
theorem WR.write {S : Bool} {d d' : Ieee.Datum} (h : DR S d d') (hn : d.isNaN = false) : WR S (F64.write d) (F64.write d') := by
  cases d with
  | nan s t => cases hn
  | infinity s =>
    cases d' <;> simp only [DR] at h
    subst h
    have hi := inf_lt .f64
    exact ⟨by show ru F64 (F64.word _ _) = ru F64 (F64.word _ _); rw [ru_word _ _ hi, ru_word _ _ hi], fun _ => by show sg F64 (F64.word _ _) = (sg F64 (F64.word _ _) ^^ S); rw [sg_word _ _ hi, sg_word _ _ hi]⟩
  | number s m p =>
    cases d' <;> simp only [DR] at h
    obtain ⟨rfl, rfl, hs⟩ := h
    refine ⟨by rw [ru_write, ru_write], fun h0 => ?_⟩
    rw [sg_write, sg_write]
    refine hs (fun hm => h0 ?_)
    subst hm
    rw [ru_write]
    unfold rungOf
    simp
/-- Seen without the choice of NaN. -/
def CR (S : Bool) : Option Nat → Option Nat → Prop
  | none, none => True
  | some a, some a' => WR S a a'
  | _, _ => False
theorem CR_cw {S : Bool} {a a' : Nat} (h : WR S a a') : CR S (cw .f64 a) (cw .f64 a') := by
  rcases cw_cases .f64 a with ⟨h1, h2⟩ | ⟨h1, h2⟩
  · rw [h1, cw_none .f64 (by rw [show ru FloatKind.f64.format a' = ru FloatKind.f64.format a from h.1]; exact h2)]; trivial
  · rw [h1, cw_some .f64 (by rw [show ru FloatKind.f64.format a' = ru FloatKind.f64.format a from h.1]; exact h2)]; exact h
theorem OD.map {S : Bool} {o o' : Option Ieee.Datum} (h : OD S o o') : CR S (o.map F64.write) (o'.map F64.write) := by
  cases o with
  | none => cases o' with
    | none => trivial
    | some d' => exact h.elim
  | some d => cases o' with
    | none => exact h.elim
    | some d' => exact WR.write h.1 h.2
theorem CR.add {S : Bool} {x x' y y' : Option Nat} (h : CR S x x') (h' : CR S y y') : CR S (arithR .add .f64 x y) (arithR .add .f64 x' y') := by
  cases x with
  | none => cases x' with
    | none => trivial
    | some a' => exact h.elim
  | some a => cases x' with
    | none => exact h.elim
    | some a' => cases y with
      | none => cases y' with
        | none => trivial
        | some b' => exact h'.elim
      | some b => cases y' with
        | none => exact h'.elim
        | some b' => exact OD.map (DR.sum (WR.read h) (WR.read h'))
theorem CR.sub {S : Bool} {x x' y y' : Option Nat} (h : CR S x x') (h' : CR S y y') : CR S (arithR .sub .f64 x y) (arithR .sub .f64 x' y') := by
  cases x with
  | none => cases x' with
    | none => trivial
    | some a' => exact h.elim
  | some a => cases x' with
    | none => exact h.elim
    | some a' => cases y with
      | none => cases y' with
        | none => trivial
        | some b' => exact h'.elim
      | some b => cases y' with
        | none => exact h'.elim
        | some b' => exact OD.map (DR.sum (WR.read h) (DR.opp (WR.read h')))
theorem CR.mul {S T : Bool} {x x' y y' : Option Nat} (h : CR S x x') (h' : CR T y y') : CR (S ^^ T) (arithR .mul .f64 x y) (arithR .mul .f64 x' y') := by
  cases x with
  | none => cases x' with
    | none => trivial
    | some a' => exact h.elim
  | some a => cases x' with
    | none => exact h.elim
    | some a' => cases y with
      | none => cases y' with
        | none => trivial
        | some b' => exact h'.elim
      | some b => cases y' with
        | none => exact h'.elim
        | some b' => exact OD.map (DR.product (WR.read h) (WR.read h'))
/-- Not a zero. -/
def NW : Option Nat → Prop
  | none => True
  | some b => ru F64 b ≠ 0
theorem nz_read {b : Nat} (h : ru F64 b ≠ 0) : NZ (F64.read b) := by
  have hb := binade_pos F64
  rw [read_eq]
  split
  · exact h
  · split
    · show F64.binade + _ ≠ 0
      omega
    · split <;> trivial
theorem CR.quo {S T : Bool} {x x' y y' : Option Nat} (h : CR S x x') (h' : CR T y y') (hz : NW y) : CR (S ^^ T) (arithR .quo .f64 x y) (arithR .quo .f64 x' y') := by
  cases x with
  | none => cases x' with
    | none => trivial
    | some a' => exact h.elim
  | some a => cases x' with
    | none => exact h.elim
    | some a' => cases y with
      | none => cases y' with
        | none => trivial
        | some b' => exact h'.elim
      | some b => cases y' with
        | none => exact h'.elim
        | some b' => exact OD.map (DR.quotient _ (WR.read h) (WR.read h') (nz_read hz))

/-! ### The divisor is no zero -/
theorem read_neg (a : Nat) : (F64.read a).neg = sg F64 a := by
  rw [read_eq]
  split
  · rfl
  · split
    · rfl
    · split <;> rfl
theorem write_neg {d : Ieee.Datum} (h : d.isNaN = false) : sg F64 (F64.write d) = d.neg := by
  cases d with
  | nan s t => cases h
  | infinity s => exact sg_word _ _ (inf_lt .f64)
  | number s m p => exact sg_write .f64 s m p
theorem product_neg {d e r : Ieee.Datum} (h : d.product e = some r) : r.neg = (d.neg ^^ e.neg) := by
  cases d <;> cases e <;> simp only [Ieee.Datum.product] at h <;> first
    | (cases h; done)
    | (cases h; first | rfl | exact Bool.xor_comm _ _)
    | (split at h <;> first | (cases h; done) | (cases h; first | rfl | exact Bool.xor_comm _ _))
theorem quotient_neg {k : Nat} {d e r : Ieee.Datum} (h : d.quotient k e = some r) : r.neg = (d.neg ^^ e.neg) := by
  cases d <;> cases e <;> simp only [Ieee.Datum.quotient] at h <;> first
    | (cases h; done)
    | (cases h; rfl)
    | (split at h
       · split at h <;> first | (cases h; done) | (cases h; rfl)
       · cases h; rfl)
theorem sg_mul {a b r : Nat} (h : floatBits .mul .f64 a b = some r) : sg F64 r = (sg F64 a ^^ sg F64 b) := by
  have h' : ((F64.read a).product (F64.read b)).map F64.write = some r := h
  obtain ⟨d, h1, rfl⟩ := Option.map_eq_some_iff.1 h'
  rw [write_neg (product_nan h1), product_neg h1, read_neg, read_neg]
theorem sg_quo {a b r : Nat} (h : floatBits .quo .f64 a b = some r) : sg F64 r = (sg F64 a ^^ sg F64 b) := by
  have h' : ((F64.read a).quotient (F64.fractionBits + 2) (F64.read b)).map F64.write = some r := h
  obtain ⟨d, h1, rfl⟩ := Option.map_eq_some_iff.1 h'
  rw [write_neg (quotient_nan h1), quotient_neg h1, read_neg, read_neg]
/-- A sum of two of one sign, the first finite and no zero. -/
theorem sum_nz {x y r : Nat} (hx : ru F64 x < F64.infRung) (h0 : ru F64 x ≠ 0) (hs : sg F64 y = sg F64 x) (h : floatBits .add .f64 x y = some r) : ru F64 r ≠ 0 := by
  have hi : 0 < F64.infRung := inf_pos .f64
  rcases Nat.lt_trichotomy (ru F64 y) F64.infRung with hy | hy | hy
  · obtain ⟨s, m, p, e, v, _⟩ := sum_fin .f64 hx hy
    rw [e] at h
    have h9 := Option.some.inj h
    subst h9
    rw [ru_write]
    have hrx := rval_pos F64 (Nat.pos_of_ne_zero h0)
    have hry := rval_nonneg F64 (ru F64 y)
    have hv : rval F64 (ru F64 x) ≤ vOf m p := by
      have v0 := vOf_nonneg m p
      have e1 : val .f64 x = sv (sg F64 x) (rval F64 (ru F64 x)) := rfl
      have e2 : val .f64 y = sv (sg F64 x) (rval F64 (ru F64 y)) := by rw [← hs]; rfl
      rw [e1, e2] at v
      unfold sv at v
      cases hsx : sg F64 x <;> rw [hsx] at v <;> cases s <;> simp only [if_true, Bool.false_eq_true, if_false] at v <;> grind
    have h8 := le_rung F64 hv
    simp only [F64] at *
    omega
  · have h' : ((F64.read x).sum (F64.read y)).map F64.write = some r := h
    obtain ⟨m, p, e, _⟩ := read_fin F64 hx
    have e2 : F64.read y = .infinity (sg F64 y) := read_inf .f64 hy
    rw [e, e2] at h'
    have h9 := Option.some.inj h'
    subst h9
    show ru F64 (F64.word _ _) ≠ 0
    rw [ru_word _ _ (inf_lt .f64)]
    simp only [F64] at *
    omega
  · have h' : ((F64.read x).sum (F64.read y)).map F64.write = some r := h
    obtain ⟨m, p, e, _⟩ := read_fin F64 hx
    have e2 : F64.read y = .nan (sg F64 y) _ := read_nan .f64 hy
    rw [e, e2] at h'
    cases h'
/-- The divisor of a quotient. -/
theorem denom_nz {c d : Nat} (hc : ru F64 c < F64.infRung) (h0 : ru F64 c ≠ 0) : NW (arithR .add .f64 (cw .f64 c) (arithR .mul .f64 (arithR .quo .f64 (cw .f64 d) (cw .f64 c)) (cw .f64 d))) := by
  have ec := cw_some .f64 (Nat.le_of_lt hc)
  rw [floatBits_cw]
  cases h1 : floatBits .quo .f64 d c with
  | none => rw [ec]; trivial
  | some r1 =>
    rw [← floatBits_num h1, floatBits_cw]
    cases h2 : floatBits .mul .f64 r1 d with
    | none => rw [ec]; trivial
    | some r2 =>
      rw [← floatBits_num h2, floatBits_cw]
      cases h3 : floatBits .add .f64 c r2 with
      | none => trivial
      | some r3 =>
        refine sum_nz hc h0 ?_ h3
        rw [sg_mul h2, sg_quo h1]
        cases sg F64 d <;> cases sg F64 c <;> rfl
end Go.Proofs.Ytjacimccpadgeaa
