/- Evaluating the mirrored row over the conjugates of the slots: the conjugate, whichever sign a zero has, and a value exactly if there was one. No program in sight. -/
import Derived.Test.YtjacimccpadgeaaMir
namespace Go.Proofs.Ytjacimccpadgeaa
open Go.RowKit
set_option maxRecDepth 100000
set_option maxHeartbeats 4000000
set_option linter.unusedVariables false
set_option linter.unusedSimpArgs false

/-- Conjugates, whichever sign a zero has. -/
def CJ (r r' : C2) : Prop := CR false r.1 r'.1 ∧ CR true r.2 r'.2
def ZJ (z w : Nat × Nat) : Prop := WR false z.1 w.1 ∧ WR true z.2 w.2
/-- Both parts finite. -/
def FZ (z : Nat × Nat) : Prop := ru F64 z.1 < F64.infRung ∧ ru F64 z.2 < F64.infRung
theorem ZJ.cz {z w : Nat × Nat} (h : ZJ z w) : CJ (cz z) (cz w) := ⟨CR_cw h.1, CR_cw h.2⟩
theorem WR.zero (S : Bool) : WR S 0 0 := ⟨rfl, fun h => absurd (ru_zero .f64) h⟩
theorem WR.refl (a : Nat) : WR false a a := ⟨rfl, fun _ => by simp⟩
theorem WR.neg {S : Bool} {a a' : Nat} (h : WR S a a') (hl : a < 2 ^ 64) (hl' : a' < 2 ^ 64) : WR S (Op.negFloat .f64 a) (Op.negFloat .f64 a') := by
  refine ⟨by rw [ru_neg .f64 hl, ru_neg .f64 hl']; exact h.1, fun h0 => ?_⟩
  rw [ru_neg .f64 hl] at h0
  rw [sg_neg .f64 hl, sg_neg .f64 hl', h.2 h0]
  simp
theorem WR.turn {a : Nat} (hl : a < 2 ^ 64) : WR true a (Op.negFloat .f64 a) := ⟨ru_neg .f64 hl, fun _ => by rw [sg_neg .f64 hl]; simp⟩
theorem ZJ.addF {z w y v : Nat × Nat} (h : ZJ z w) (h' : ZJ y v) : CJ (addF z y) (addF w v) := ⟨CR.add (CR_cw h.1) (CR_cw h'.1), CR.add (CR_cw h.2) (CR_cw h'.2)⟩
theorem ZJ.subF {z w y v : Nat × Nat} (h : ZJ z w) (h' : ZJ y v) : CJ (subF z y) (subF w v) := ⟨CR.sub (CR_cw h.1) (CR_cw h'.1), CR.sub (CR_cw h.2) (CR_cw h'.2)⟩
theorem ZJ.mulF {z w y v : Nat × Nat} (h : ZJ z w) (h' : ZJ y v) : CJ (mulF z y) (mulF w v) :=
  ⟨CR.sub (CR.mul (CR_cw h.1) (CR_cw h'.1)) (CR.mul (CR_cw h.2) (CR_cw h'.2)), CR.add (CR.mul (CR_cw h.1) (CR_cw h'.2)) (CR.mul (CR_cw h.2) (CR_cw h'.1))⟩
theorem abs_ru (a : Nat) : Op.Complex.abs a = ru F64 a := rfl
theorem absGe_congr {c c' d d' : Nat} (h : ru F64 c' = ru F64 c) (h' : ru F64 d' = ru F64 d) : absGe c' d' = absGe c d := by
  unfold absGe
  rw [abs_ru, abs_ru, abs_ru, abs_ru, h, h']
theorem key_ru (a : Nat) : key .f64 (ru F64 a) = (ru F64 a : Int) := by
  unfold key
  rw [show sg FloatKind.f64.format (ru F64 a) = false from sg_ru F64 a, show ru FloatKind.f64.format (ru F64 a) = ru F64 a from ru_ru F64 a]
  rfl
theorem absGe_iff {c d : Nat} (hc : ru F64 c < F64.infRung) (hd : ru F64 d < F64.infRung) : absGe c d = decide (ru F64 d ≤ ru F64 c) := by
  unfold absGe
  rw [abs_ru, abs_ru]
  have h1 : ru FloatKind.f64.format (ru F64 c) ≤ FloatKind.f64.format.infRung := by rw [show ru FloatKind.f64.format (ru F64 c) = ru F64 c from ru_ru F64 c]; exact Nat.le_of_lt hc
  have h2 : ru FloatKind.f64.format (ru F64 d) ≤ FloatKind.f64.format.infRung := by rw [show ru FloatKind.f64.format (ru F64 d) = ru F64 d from ru_ru F64 d]; exact Nat.le_of_lt hd
  rw [ord_gt .f64 h1 h2, ord_eq .f64 h1 h2, key_ru, key_ru]
  by_cases h : ru F64 d ≤ ru F64 c
  · rw [decide_eq_true h]
    rcases Nat.lt_or_eq_of_le h with h3 | h3
    · rw [decide_eq_true (by omega)]; rfl
    · rw [show decide ((ru F64 c : Int) = (ru F64 d : Int)) = true from decide_eq_true (by omega), Bool.or_true]
  · rw [decide_eq_false h, decide_eq_false (by omega), decide_eq_false (by omega)]; rfl
theorem ZJ.quoF {z w y v : Nat × Nat} (h : ZJ z w) (h' : ZJ y v) (hf : FZ y) (hz : ¬ (ru F64 y.1 = 0 ∧ ru F64 y.2 = 0)) : CJ (quoF z y) (quoF w v) := by
  have hge := absGe_congr h'.1.1 h'.2.1
  have a := CR_cw h.1
  have b := CR_cw h.2
  have c := CR_cw h'.1
  have d := CR_cw h'.2
  have hi := absGe_iff hf.1 hf.2
  cases hq : absGe y.1 y.2
  · rw [hq] at hge hi
    have hlt : ¬ ru F64 y.2 ≤ ru F64 y.1 := of_decide_eq_false hi.symm
    have hd0 : ru F64 y.2 ≠ 0 := by omega
    have ratio := CR.quo c d (by rw [cw_some .f64 (Nat.le_of_lt hf.2)]; exact hd0)
    have denom := CR.add d (CR.mul ratio c)
    have hn := denom_nz (d := y.1) hf.2 hd0
    simp only [_root_.Go.Proofs.Ytjacimccpadgeaa.quoF, hq, hge, Bool.false_eq_true, if_false]
    exact ⟨CR.quo (CR.add (CR.mul a ratio) b) denom hn, CR.quo (CR.sub (CR.mul b ratio) a) denom hn⟩
  · rw [hq] at hge hi
    have hle : ru F64 y.2 ≤ ru F64 y.1 := of_decide_eq_true hi.symm
    have hc0 : ru F64 y.1 ≠ 0 := fun h0 => hz ⟨h0, by omega⟩
    have ratio := CR.quo d c (by rw [cw_some .f64 (Nat.le_of_lt hf.1)]; exact hc0)
    have denom := CR.add c (CR.mul ratio d)
    have hn := denom_nz (d := y.2) hf.1 hc0
    simp only [_root_.Go.Proofs.Ytjacimccpadgeaa.quoF, hq, hge, if_true]
    exact ⟨CR.quo (CR.add a (CR.mul b ratio)) denom hn, CR.quo (CR.sub b (CR.mul a ratio)) denom hn⟩
theorem key_turn {S : Bool} {a a' : Nat} (h : WR S a a') : key .f64 a' = sgZ S (key .f64 a) := by
  unfold key sgZ
  rw [show ru FloatKind.f64.format a' = ru FloatKind.f64.format a from h.1]
  by_cases h0 : ru FloatKind.f64.format a = 0
  · rw [h0]; simp
  · rw [show sg FloatKind.f64.format a' = (sg FloatKind.f64.format a ^^ S) from h.2 h0]
    cases sg FloatKind.f64.format a <;> cases S <;> simp
theorem key_inj {S : Bool} {a b a' b' : Nat} (h : WR S a a') (h' : WR S b b') : (key .f64 a' = key .f64 b') ↔ (key .f64 a = key .f64 b) := by
  rw [key_turn h, key_turn h']
  unfold sgZ
  split <;> omega
theorem WR.fin {S : Bool} {a a' : Nat} (h : WR S a a') (hf : ru F64 a < F64.infRung) : ru F64 a' < F64.infRung := by rw [h.1]; exact hf
theorem ZJ.fz {z w : Nat × Nat} (h : ZJ z w) (hf : FZ z) : FZ w := ⟨h.1.fin hf.1, h.2.fin hf.2⟩
theorem eqZ_congr {z w y v : Nat × Nat} (h : ZJ z w) (h' : ZJ y v) (hf : FZ z) (hf' : FZ y) : eqZ w v = eqZ z y := by
  have g := h.fz hf
  have g' := h'.fz hf'
  unfold eqZ
  rw [ord_eq .f64 (Nat.le_of_lt g.1) (Nat.le_of_lt g'.1), ord_eq .f64 (Nat.le_of_lt g.2) (Nat.le_of_lt g'.2), ord_eq .f64 (Nat.le_of_lt hf.1) (Nat.le_of_lt hf'.1), ord_eq .f64 (Nat.le_of_lt hf.2) (Nat.le_of_lt hf'.2)]
  simp only [key_inj h.1 h'.1, key_inj h.2 h'.2]
theorem FZ.zero : FZ (0, 0) := ⟨by decide, by decide⟩
theorem ZJ.zero : ZJ (0, 0) (0, 0) := ⟨WR.zero _, WR.zero _⟩
theorem eqZ_zero {y : Nat × Nat} (hf : FZ y) : eqZ y (0, 0) = decide (ru F64 y.1 = 0 ∧ ru F64 y.2 = 0) := by
  have h0 : ru FloatKind.f64.format 0 ≤ FloatKind.f64.format.infRung := by decide
  unfold eqZ
  rw [ord_eq .f64 (Nat.le_of_lt hf.1) h0, ord_eq .f64 (Nat.le_of_lt hf.2) h0, key_zero .f64 (ru_zero .f64)]
  have e : ∀ a, (key .f64 a = 0) ↔ (ru F64 a = 0) := fun a => by
    show ((if sg FloatKind.f64.format a then -(ru FloatKind.f64.format a : Int) else (ru FloatKind.f64.format a : Int)) = 0) ↔ (ru FloatKind.f64.format a = 0)
    split <;> omega
  simp only [e]
  by_cases h1 : ru F64 y.1 = 0 <;> by_cases h2 : ru F64 y.2 = 0 <;> simp [h1, h2]

/-! ### Rows of values -/
def SJ : List (Nat × Nat) → List (Nat × Nat) → Prop
  | [], [] => True
  | z :: s, w :: t => (ZJ z w ∧ FZ z ∧ ZOk z ∧ ZOk w) ∧ SJ s t
  | _, _ => False
theorem SJ.len : ∀ {s t : List (Nat × Nat)}, SJ s t → t.length = s.length
  | [], [], _ => rfl
  | z :: s, w :: t, h => by simp [SJ.len h.2]
  | [], w :: t, h => h.elim
  | z :: s, [], h => h.elim
theorem SJ.take : ∀ {s t : List (Nat × Nat)} (n : Nat), SJ s t → SJ (s.take n) (t.take n)
  | [], [], n, _ => by simp; trivial
  | z :: s, w :: t, 0, h => trivial
  | z :: s, w :: t, n + 1, h => ⟨h.1, SJ.take n h.2⟩
  | [], w :: t, n, h => h.elim
  | z :: s, [], n, h => h.elim
theorem SJ.drop : ∀ {s t : List (Nat × Nat)} (n : Nat), SJ s t → SJ (s.drop n) (t.drop n)
  | [], [], n, _ => by simp; trivial
  | z :: s, w :: t, 0, h => h
  | z :: s, w :: t, n + 1, h => SJ.drop n h.2
  | [], w :: t, n, h => h.elim
  | z :: s, [], n, h => h.elim
theorem SJ.snoc : ∀ {s t : List (Nat × Nat)} {z w : Nat × Nat}, SJ s t → ZJ z w → FZ z → ZOk z → ZOk w → SJ (s ++ [z]) (t ++ [w])
  | [], [], z, w, _, h, f, o, o' => ⟨⟨h, f, o, o'⟩, trivial⟩
  | x :: s, y :: t, z, w, h', h, f, o, o' => ⟨h'.1, SJ.snoc h'.2 h f o o'⟩
  | [], w :: t, _, _, h, _, _, _, _ => h.elim
  | z :: s, [], _, _, h, _, _, _, _ => h.elim
theorem SJ.get : ∀ {s t : List (Nat × Nat)} (n : Nat), SJ s t → ZJ (s.getD n (0, 0)) (t.getD n (0, 0)) ∧ FZ (s.getD n (0, 0)) ∧ ZOk (s.getD n (0, 0)) ∧ ZOk (t.getD n (0, 0))
  | [], [], n, _ => ⟨ZJ.zero, FZ.zero, ⟨by simp, by simp⟩, ⟨by simp, by simp⟩⟩
  | z :: s, w :: t, 0, h => h.1
  | z :: s, w :: t, n + 1, h => by
    have := SJ.get n h.2
    simpa using this
  | [], w :: t, n, h => h.elim
  | z :: s, [], n, h => h.elim

/-! ### One node -/
def EO : Option C2 → Option C2 → Prop
  | none, none => True
  | some r, some r' => CJ r r'
  | _, _ => False
theorem slot_EO (zs : List (Nat × Nat)) (hz : ∀ z ∈ zs, ZOk z) (n : Nat) : EO ((zs[n]?).map cz) (((zs.map kz)[n]?).map cz) := by
  rw [List.getElem?_map]
  cases hq : zs[n]? with
  | none => trivial
  | some z =>
    have hm := hz z (List.mem_of_getElem? hq)
    exact ⟨CR_cw (WR.refl _), CR_cw (WR.turn hm.2)⟩
theorem evF_EO {x : Nd} {s t zs : List (Nat × Nat)} (h : SJ s t) (hz : ∀ z ∈ zs, ZOk z) (hk1 : x.kind = 1 → x.im = 0) (hk7 : x.kind ≠ 7) : EO (evF x s zs) (evF x t (zs.map kz)) := by
  obtain ⟨j0, f0, o0, p0⟩ := SJ.get 0 h
  obtain ⟨j1, f1, o1, p1⟩ := SJ.get 1 h
  unfold evF
  by_cases c1 : x.kind = 1
  · rw [if_pos c1, if_pos c1, hk1 c1]
    exact ⟨CR_cw (WR.refl _), CR_cw (WR.zero _)⟩
  rw [if_neg c1, if_neg c1]
  by_cases c2 : x.kind = 2
  · rw [if_pos c2, if_pos c2]
    exact slot_EO zs hz _
  rw [if_neg c2, if_neg c2]
  by_cases c3 : x.kind = 3
  · simp only [if_pos c3]
    exact j0.cz
  simp only [if_neg c3]
  by_cases c4 : x.kind = 4
  · simp only [if_pos c4]
    exact ⟨CR_cw (WR.neg j0.1 o0.1 p0.1), CR_cw (WR.neg j0.2 o0.2 p0.2)⟩
  simp only [if_neg c4]
  by_cases c5 : x.kind = 5
  · simp only [if_pos c5]
    exact ⟨CR_cw j0.1, CR_cw (WR.neg j0.2 o0.2 p0.2)⟩
  simp only [if_neg c5]
  by_cases c6 : x.kind = 6
  · simp only [if_pos c6]
    exact ⟨CR_cw j0.1, CR_cw (WR.zero _)⟩
  simp only [if_neg c6, if_neg hk7]
  by_cases c8 : x.kind = 8
  · simp only [if_pos c8]
    exact j0.addF j1
  simp only [if_neg c8]
  by_cases c9 : x.kind = 9
  · simp only [if_pos c9]
    exact j0.subF j1
  simp only [if_neg c9]
  by_cases c10 : x.kind = 10
  · simp only [if_pos c10]
    exact j0.mulF j1
  simp only [if_neg c10]
  by_cases c11 : x.kind = 11
  · simp only [if_pos c11]
    have he := eqZ_congr j1 ZJ.zero f1 FZ.zero
    have hz := eqZ_zero f1
    rw [he]
    cases hq : eqZ (s.getD 1 (0, 0)) (0, 0)
    · rw [hq] at hz
      simp only [Bool.false_eq_true, if_false]
      exact j0.quoF j1 f1 (of_decide_eq_false hz.symm)
    · simp only [if_true]
      trivial
  simp only [if_neg c11]
  rw [eqZ_congr j0 j1 f0 f1]
  cases eqZ (s.getD 0 (0, 0)) (s.getD 1 (0, 0))
  · exact ⟨CR_cw (WR.zero _), CR_cw (WR.zero _)⟩
  · exact ZJ.cz (z := (4607182418800017408, 0)) (w := (4607182418800017408, 0)) ⟨WR.refl _, WR.zero _⟩
/-- The results of a walk are words: what the finite results are. -/
def FO : Option (Nat × Nat) → Option (Nat × Nat) → Prop
  | none, none => True
  | some z, some w => ZJ z w ∧ FZ z
  | _, _ => False
theorem finC_FO {r r' : C2} (h : CJ r r') : FO (finC r) (finC r') := by
  obtain ⟨a, b⟩ := r
  obtain ⟨a', b'⟩ := r'
  obtain ⟨h1, h2⟩ := h
  cases a with
  | none => cases a' with
    | none => trivial
    | some x' => exact h1.elim
  | some x => cases a' with
    | none => exact h1.elim
    | some x' => cases b with
      | none => cases b' with
        | none => trivial
        | some y' => exact h2.elim
      | some y => cases b' with
        | none => exact h2.elim
        | some y' =>
          have e : finZ (x', y') = finZ (x, y) := by
            unfold finZ finB
            rw [show ru FloatKind.f64.format x' = ru FloatKind.f64.format x from h1.1, show ru FloatKind.f64.format y' = ru FloatKind.f64.format y from h2.1]
          show FO (if finZ (x, y) then some (x, y) else none) (if finZ (x', y') then some (x', y') else none)
          rw [e]
          cases hq : finZ (x, y)
          · trivial
          · unfold finZ finB at hq
            simp only [Bool.and_eq_true, decide_eq_true_eq] at hq
            exact ⟨⟨h1, h2⟩, hq⟩
end Go.Proofs.Ytjacimccpadgeaa
