/- The text of a number is read as this number. No program in sight. -/
import Derived.Test.YtjgjgjkffoagoaaDoorTreeB
namespace Go.Proofs.YtjgjgjkffoagoaaDoor
open Go.RowKit
open Go.Lib (itoa decDigits nDigits nDigits_le20 itoa_length_le)
set_option maxRecDepth 100000
set_option maxHeartbeats 1000000
set_option linter.unusedVariables false
set_option linter.unusedSimpArgs false

theorem figL_app : ∀ (D R : List UInt8), (∀ c ∈ D, isFig c = true) → (∀ c, R.head? = some c → isFig c = false) → figL (D ++ R) = D.length
  | [], R, _, hR => by
    cases R with
    | nil => rfl
    | cons c R =>
      show (if isFig c then figL R + 1 else 0) = 0
      rw [hR c rfl]; rfl
  | d :: D, R, hD, hR => by
    show (if isFig d then figL (D ++ R) + 1 else 0) = D.length + 1
    rw [hD d (by simp), if_pos rfl, figL_app D R (fun c hc => hD c (by simp [hc])) hR]
theorem figE_app (A D R : List UInt8) (hD : ∀ c ∈ D, isFig c = true) (hR : ∀ c, R.head? = some c → isFig c = false) : figE (A ++ (D ++ R)) A.length = A.length + D.length := by
  unfold figE
  rw [List.drop_left, figL_app D R hD hR]
theorem isAt_app (A R : List UInt8) (c : Nat) : isAt (A ++ R) A.length c = match R.head? with | some b => b.toNat == c | none => false := by
  unfold isAt
  have : (A ++ R)[A.length]? = R.head? := by
    have := get_app A R 0
    rw [Nat.add_zero] at this
    rw [this]
    cases R <;> rfl
  rw [this]
  cases R.head? <;> rfl
theorem figs_dec (u : Nat) : ∀ c ∈ decDigits u, isFig c = true := fun c hc => by
  have := figs_decDigits u c hc
  unfold isFig
  rw [decide_eq_true this.1, decide_eq_true this.2]; rfl
theorem dec_head (u : Nat) : ∃ c D, decDigits u = c :: D ∧ isFig c = true := by
  obtain ⟨x, l, hl⟩ : ∃ x l, decDigits u = x :: l := List.exists_cons_of_length_pos (dec_pos _)
  exact ⟨x, l, hl, figs_dec u x (by rw [hl]; simp)⟩
theorem fig_nat {c : UInt8} (h : isFig c = true) : 48 ≤ c.toNat ∧ c.toNat ≤ 57 := by
  unfold isFig at h
  simpa using h
/-- Where a number ends whose text stands next. -/
theorem numE_zero (A R : List UInt8) (hR : ∀ c, R.head? = some c → isFig c = false ∧ c.toNat ≠ 112) : numE (A ++ ([48] ++ R)) A.length = A.length + 1 := by
  have h1 : figE (A ++ ([48] ++ R)) A.length = A.length + 1 := figE_app A [48] R (by simp; rfl) (fun c hc => (hR c hc).1)
  have e : A ++ ([48] ++ R) = (A ++ [48]) ++ R := (List.append_assoc _ _ _).symm
  have h2 : isAt (A ++ ([48] ++ R)) (A.length + 1) 112 = false := by
    have := isAt_app (A ++ [48]) R 112
    rw [← e] at this
    rw [show (A ++ [48] : List UInt8).length = A.length + 1 by simp] at this
    rw [this]
    cases hq : R.head? with
    | none => rfl
    | some c => exact beq_eq_false_iff_ne.2 (hR c hq).2
  unfold numE
  rw [h1, h2]; rfl
theorem numE_full (A R : List UInt8) (m : Nat) (e : Int) (hR : ∀ c, R.head? = some c → isFig c = false ∧ c.toNat ≠ 112) : numE (A ++ ((decDigits m ++ 112 :: itoa e) ++ R)) A.length = A.length + (decDigits m ++ 112 :: itoa e).length ∧ A.length < figE (A ++ ((decDigits m ++ 112 :: itoa e) ++ R)) A.length := by
  have hd := dec_pos m
  obtain ⟨S, hS⟩ : ∃ S, S = A ++ ((decDigits m ++ 112 :: itoa e) ++ R) := ⟨_, rfl⟩
  have e1 : S = A ++ (decDigits m ++ (112 :: (itoa e ++ R))) := by rw [hS]; simp
  have h1 : figE S A.length = A.length + (decDigits m).length := by
    rw [e1]
    exact figE_app A _ _ (figs_dec m) (fun c hc => by
      have := Option.some.inj hc
      rw [← this]; rfl)
  have h2 : isAt S (A.length + (decDigits m).length) 112 = true := by
    have e2 : S = (A ++ decDigits m) ++ (112 :: (itoa e ++ R)) := by rw [e1]; simp
    have := isAt_app (A ++ decDigits m) (112 :: (itoa e ++ R)) 112
    rw [← e2, List.length_append] at this
    rw [this]; rfl
  rw [← hS]
  refine ⟨?_, by rw [h1]; omega⟩
  have hk : ∀ k B, S = B ++ (decDigits e.natAbs ++ R) → k = B.length → figE S k = k + (decDigits e.natAbs).length := fun k B hB hk => by
    subst hk
    rw [hB]
    exact figE_app B _ _ (figs_dec _) (fun c hc => (hR c hc).1)
  have hd2 := dec_pos e.natAbs
  have hab := itoa_abs e
  unfold numE
  rw [h1, h2]
  simp only [if_true]
  by_cases hneg : e < 0
  · rw [if_pos hneg] at hab
    have h3 : isAt S (A.length + (decDigits m).length + 1) 45 = true := by
      have e3 : S = (A ++ decDigits m ++ [112]) ++ (45 :: (decDigits e.natAbs ++ R)) := by rw [e1, hab]; simp
      have := isAt_app (A ++ decDigits m ++ [112]) (45 :: (decDigits e.natAbs ++ R)) 45
      rw [← e3] at this
      rw [show (A ++ decDigits m ++ [112] : List UInt8).length = A.length + (decDigits m).length + 1 by simp; omega] at this
      rw [this]; rfl
    have h4 := hk (A.length + (decDigits m).length + 2) (A ++ decDigits m ++ [112, 45]) (by rw [e1, hab]; simp) (by simp; omega)
    rw [h3]
    simp only [if_true]
    rw [h4, if_pos (by omega), hab]
    simp; omega
  · rw [if_neg hneg] at hab
    have hab' : itoa e = decDigits e.natAbs := hab
    have h3 : isAt S (A.length + (decDigits m).length + 1) 45 = false := by
      have e3 : S = (A ++ decDigits m ++ [112]) ++ (decDigits e.natAbs ++ R) := by rw [e1, hab']; simp
      have := isAt_app (A ++ decDigits m ++ [112]) (decDigits e.natAbs ++ R) 45
      rw [← e3] at this
      rw [show (A ++ decDigits m ++ [112] : List UInt8).length = A.length + (decDigits m).length + 1 by simp; omega] at this
      rw [this]
      obtain ⟨c, D, hc, hf⟩ := dec_head e.natAbs
      rw [hc]
      have := fig_nat hf
      exact beq_eq_false_iff_ne.2 (by omega)
    have h4 := hk (A.length + (decDigits m).length + 1) (A ++ decDigits m ++ [112]) (by rw [e1, hab']; simp) (by simp; omega)
    rw [h3]
    simp only [Bool.false_eq_true, if_false]
    rw [h4, if_pos (by omega), hab']
    simp; omega
theorem psF_yes {y : Nat} {l : List UInt8} (hy : GS y) (h : TxR y l) : psF l = some y := by
  have := psF_of (t := l) (x := y) (ok := true) ⟨fun _ => ⟨hy, h⟩, fun h => by cases h⟩
  simpa using this
theorem numT_app (A l R : List UInt8) (h : numE (A ++ (l ++ R)) A.length = A.length + l.length) : numT (A ++ (l ++ R)) A.length = l := by
  unfold numT
  rw [h, List.drop_left, show A.length + l.length - A.length = l.length by omega, List.take_left]
/-- A number's text, read. -/
theorem num_read {y : Nat} {l : List UInt8} (hy : GS y) (h : TxR y l) (A R : List UInt8) (out : List Nd) (hR : ∀ c, R.head? = some c → isFig c = false ∧ c.toNat ≠ 112) :
    numF (A ++ (l ++ R)) A.length out = if y ≠ 0 ∧ R.head? = some 105 then some (A.length + l.length + 1, out ++ [⟨1, 0, 0, wd y⟩]) else some (A.length + l.length, out ++ [⟨1, 0, wd y, 0⟩]) := by
  have hps := psF_yes hy h
  rcases h with ⟨h1, h2⟩ | ⟨m, e, h0, hs, hl⟩
  · subst h1 h2
    have hE := numE_zero A R hR
    have hT := numT_app A [48] R hE
    have hF : figE (A ++ ([48] ++ R)) A.length = A.length + 1 := figE_app A [48] R (by simp; rfl) (fun c hc => (hR c hc).1)
    unfold numF
    rw [if_pos (by rw [hF]; omega), hT, hps, hE, if_neg (fun h => h.1 rfl)]
    rfl
  · have hi : itoa (m : Int) = decDigits m := by rw [itoa_nat _ (by omega)]; simp
    rw [hi] at hl
    obtain ⟨hE, hF⟩ := numE_full A R m e hR
    rw [← hl] at hE hF
    have hT := numT_app A l R hE
    have hne : (l == [48]) = false := beq_eq_false_iff_ne.2 (fun hc => by
      rw [hl] at hc
      have h1 := congrArg List.length hc
      have := dec_pos m
      rw [List.length_append, List.length_cons] at h1
      simp at h1
      omega)
    have hat : isAt (A ++ (l ++ R)) (A.length + l.length) 105 = match R.head? with | some b => b.toNat == 105 | none => false := by
      have e2 : A ++ (l ++ R) = (A ++ l) ++ R := (List.append_assoc _ _ _).symm
      have := isAt_app (A ++ l) R 105
      rw [← e2, List.length_append] at this
      exact this
    unfold numF
    rw [if_pos hF, hT, hps, hE, hat, hne]
    cases hq : R.head? with
    | none => rw [if_neg (fun h => by cases h.2)]; rfl
    | some c =>
      by_cases hc : c = 105
      · rw [hc, if_pos ⟨h0, rfl⟩]; rfl
      · have hcn : (c.toNat == 105) = false := beq_eq_false_iff_ne.2 (fun h => hc (UInt8.toNat_inj.1 h))
        rw [if_neg (fun h => hc (Option.some.inj h.2))]
        show (if (!false && (c.toNat == 105)) then _ else _) = _
        rw [hcn]; rfl
end Go.Proofs.YtjgjgjkffoagoaaDoor
