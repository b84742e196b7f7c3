/- The plain reader: it ends at every text; what it reads is an expression of good nodes. No program in sight. -/
import Derived.Test.YtjgjgjkffoagoaaDoorRzB
namespace Go.Proofs.YtjgjgjkffoagoaaDoor
open Go.RowKit
set_option maxRecDepth 100000
set_option maxHeartbeats 1000000
set_option linter.unusedVariables false
set_option linter.unusedSimpArgs false

/-- It fails, or has read more than 60 nodes. -/
def Long (r : Option St) : Prop := r = none ∨ ∃ p, r = some p ∧ 60 < p.2.length
/-- A node that may be read. -/
def GoodP (x : Nd) : Prop := (x.kind = 1 ∧ x.slot = 0 ∧ GoodV x.re x.im) ∨ (x.kind = 2 ∧ (0 ≤ x.slot ∧ x.slot ≤ 9) ∧ x.re = 0 ∧ x.im = 0) ∨ ((3 ≤ x.kind ∧ x.kind ≤ 12) ∧ x.slot = 0 ∧ x.re = 0 ∧ x.im = 0)
theorem thenP_got {x : Option (Option St)} {g : Nat → List Nd → Option (Option St)} {r : Option St} (h : thenP x g = some r) : ∃ r1, x = some r1 ∧ (r1 = none → r = none) ∧ ∀ i o, r1 = some (i, o) → g i o = some r := by
  unfold thenP at h
  cases x with
  | none => cases h
  | some y =>
    cases y with
    | none => exact ⟨none, rfl, fun _ => (Option.some.inj h).symm, fun i o h' => by cases h'⟩
    | some p =>
      obtain ⟨i, o⟩ := p
      exact ⟨some (i, o), rfl, fun h' => (by cases h'), fun i' o' h' => by
        have := Option.some.inj h'
        have h1 := (Prod.mk.inj this).1
        have h2 := (Prod.mk.inj this).2
        subst h1 h2
        exact h⟩
theorem stands_one (s : List UInt8) (i : Nat) (c : UInt8) : stands s i [c] = (s[skip s i]? == some c) := by
  rw [stands_take]
  rcases Nat.lt_or_ge (skip s i) s.length with h | h
  · rw [List.drop_eq_getElem_cons h, List.getElem?_eq_getElem h]
    show ([s[skip s i]] == [c]) = (some s[skip s i] == some c)
    rw [Bool.eq_iff_iff, beq_iff_eq, beq_iff_eq]
    simp
  · rw [List.drop_eq_nil_of_le h, List.getElem?_eq_none h]
    simp
/-- What is read next: one whole expression, or operators and operands behind one. -/
def Kd : Md → Nat → List Nd → Prop
  | .loop _, h, l => hrun (h + 1) l = some (h + 1)
  | .word _, h, l => hrun h l = some (h + 1)
  | .lev _, h, l => hrun h l = some (h + 1)
  | .fac, h, l => hrun h l = some (h + 1)
def MdOk : Md → Prop
  | .loop n => n ≤ 2
  | .lev n => n ≤ 3
  | .word k => 5 ≤ k ∧ k ≤ 7
  | .fac => True
/-- What the reader has come to. -/
structure Came (s : List UInt8) (md : Md) (i : Nat) (o : List Nd) (i2 : Nat) (o2 : List Nd) : Prop where
  ge : i ≤ i2
  le : i2 ≤ s.length
  row : ∃ l, o2 = o ++ l ∧ (∀ h, Kd md h l) ∧ ∀ x ∈ l, GoodP x
theorem hrun_op {h : Nat} {x : Nd} (ha : arity x = 1) : hrun (h + 1) [x] = some (h + 1) := by
  unfold hrun
  rw [ha, if_neg (by omega)]
  rfl
theorem hrun_op2 {h : Nat} {x : Nd} (ha : arity x = 2) : hrun (h + 2) [x] = some (h + 1) := by
  unfold hrun
  rw [ha, if_neg (by omega)]
  rfl
theorem goodP_op {k : Int} (h : 3 ≤ k ∧ k ≤ 12) : GoodP (nd k) := .inr (.inr ⟨h, rfl, rfl, rfl⟩)
theorem arity_nd1 {k : Int} (h : 3 ≤ k ∧ k ≤ 7) : arity (nd k) = 1 := by
  unfold arity
  have h1 : ¬ 8 ≤ k := by omega
  have h2 : 3 ≤ k := h.1
  simp [h1, h2]
theorem arity_nd2 {k : Int} (h : 8 ≤ k ∧ k ≤ 12) : arity (nd k) = 2 := by
  unfold arity
  have h1 : 8 ≤ k := h.1
  simp [h1]
theorem Came.then {s : List UInt8} {m1 m2 md : Md} {i i1 i2 : Nat} {o o1 o2 : List Nd} (h : Came s m1 i o i1 o1) (h' : Came s m2 i1 o1 i2 o2) (hk : ∀ h a b, Kd m1 h a → Kd m2 h b → Kd md h (a ++ b)) : Came s md i o i2 o2 := by
  obtain ⟨l, rfl, a, b⟩ := h.row
  obtain ⟨l', rfl, a', b'⟩ := h'.row
  refine ⟨Nat.le_trans h.ge h'.ge, h'.le, l ++ l', by rw [List.append_assoc], fun n => hk n _ _ (a n) (a' n), fun x hx => ?_⟩
  rcases List.mem_append.1 hx with hx | hx
  · exact b x hx
  · exact b' x hx
/-- A node behind an expression. -/
theorem Came.one {s : List UInt8} {md : Md} {i i1 i2 j : Nat} {o o1 : List Nd} {k : Int} (h : Came s md j o i1 o1) (hmd : ∀ n l, Kd md n l → hrun n l = some (n + 1)) (hk : 3 ≤ k ∧ k ≤ 7) (hi : i ≤ j) (h2 : i1 ≤ i2) (h3 : i2 ≤ s.length) : Came s .fac i o i2 (o1 ++ [nd k]) := by
  obtain ⟨l, rfl, a, b⟩ := h.row
  refine ⟨by have := h.ge; omega, h3, l ++ [nd k], by rw [List.append_assoc], fun n => ?_, fun x hx => ?_⟩
  · show hrun n (l ++ [nd k]) = _
    rw [hrun_append, hmd n l (a n)]
    exact hrun_op (arity_nd1 hk)
  · rcases List.mem_append.1 hx with hx | hx
    · exact b x hx
    · rw [List.mem_singleton] at hx
      subst hx
      exact goodP_op (by omega)
theorem opK_in {n : Nat} {c : Option UInt8} {k : Int} (h : opK n c = some k) : (8 ≤ k ∧ k ≤ 12) ∧ n ≤ 2 ∧ ∃ x, c = some x := by
  unfold opK at h
  split at h
  · split at h
    · obtain rfl := Option.some.inj h; exact ⟨by omega, by omega, _, rfl⟩
    · cases h
  · split at h
    · obtain rfl := Option.some.inj h; exact ⟨by omega, by omega, _, rfl⟩
    · split at h
      · obtain rfl := Option.some.inj h; exact ⟨by omega, by omega, _, rfl⟩
      · cases h
  · split at h
    · obtain rfl := Option.some.inj h; exact ⟨by omega, by omega, _, rfl⟩
    · split at h
      · obtain rfl := Option.some.inj h; exact ⟨by omega, by omega, _, rfl⟩
      · cases h
  · cases h
theorem goodW_wd {y : Nat} (h : GS y) : GoodW (wd y) := by
  have hw : cw .f64 (wd y) = widen (cw .f32 y) := by
    rw [cw_some .f32 (Nat.le_of_lt h.2.1)]
    obtain ⟨r, rfl, _, hf, _⟩ := widen_fin h.2.1
    exact cw_some .f64 (Nat.le_of_lt hf)
  exact ⟨FloatKind.f64.format.write_lt _, y, h.1, h.2.1, h.2.2, hw⟩
theorem psF_GS {t : List UInt8} {y : Nat} (h : psF t = some y) : GS y := by
  unfold psF at h
  split at h
  · rename_i hx
    have h2 := Exists.choose_spec hx
    rw [Option.some.inj h] at h2
    exact h2.1
  · cases h
theorem numF_came {s : List UInt8} {i i2 : Nat} {o o2 : List Nd} (hi : i ≤ s.length) (h : numF s i o = some (i2, o2)) : Came s .fac i o i2 o2 := by
  have hn := numE_le hi
  have hg := figE_ge s i
  unfold numF at h
  split at h
  · cases hp : psF (numT s i) with
    | none => rw [hp] at h; cases h
    | some y =>
      rw [hp] at h
      have hy := goodW_wd (psF_GS hp)
      simp only at h
      split at h
      · rename_i hc
        have hl := isAt_lt (Bool.and_eq_true_iff.1 hc).2
        have h1 := Prod.mk.inj (Option.some.inj h)
        rw [← h1.1, ← h1.2]
        refine ⟨by omega, by omega, [⟨1, 0, 0, wd y⟩], rfl, fun n => rfl, fun x hx => ?_⟩
        rw [List.mem_singleton] at hx
        subst hx
        exact .inl ⟨rfl, rfl, .inr ⟨rfl, hy⟩⟩
      · have h1 := Prod.mk.inj (Option.some.inj h)
        rw [← h1.1, ← h1.2]
        refine ⟨by omega, by omega, [⟨1, 0, wd y, 0⟩], rfl, fun n => rfl, fun x hx => ?_⟩
        rw [List.mem_singleton] at hx
        subst hx
        exact .inl ⟨rfl, rfl, .inl ⟨hy, rfl⟩⟩
  · cases h
theorem slotP_came {s : List UInt8} {i p i2 : Nat} {o o2 : List Nd} (hi : i ≤ p) (h : slotP s p o = some (i2, o2)) : Came s .fac i o i2 o2 := by
  unfold slotP at h
  cases hc : s[p]? with
  | none => rw [hc] at h; cases h
  | some c =>
    rw [hc] at h
    simp only at h
    split at h
    · rename_i hf
      have hl := (List.getElem?_eq_some_iff.1 hc).1
      have h1 := Prod.mk.inj (Option.some.inj h)
      rw [← h1.1, ← h1.2]
      unfold isFig at hf
      simp at hf
      refine ⟨by omega, by omega, [⟨2, (c.toNat : Int) - 48, 0, 0⟩], rfl, fun n => rfl, fun x hx => ?_⟩
      rw [List.mem_singleton] at hx
      subst hx
      exact .inr (.inl ⟨rfl, ⟨by show (0 : Int) ≤ (c.toNat : Int) - 48; omega, by show (c.toNat : Int) - 48 ≤ 9; omega⟩, rfl, rfl⟩)
    · cases h
theorem came_all (s : List UInt8) : ∀ (f : Nat) (md : Md) (i : Nat) (o : List Nd) (i2 : Nat) (o2 : List Nd), prs s f md i o = some (some (i2, o2)) → MdOk md → i ≤ s.length → Came s md i o i2 o2
  | 0, _, _, _, _, _, h, _, _ => by cases h
  | f + 1, .lev n, i, o, i2, o2, h, hmd, hi => by
    unfold prs at h
    split at h
    · have := came_all s f .fac i o i2 o2 h trivial hi
      exact ⟨this.ge, this.le, this.row⟩
    · rename_i hn3
      have hmd' : n ≤ 3 := hmd
      obtain ⟨r1, h1, h2, h3⟩ := thenP_got h
      cases r1 with
      | none => cases h2 rfl
      | some p =>
        obtain ⟨i1, o1⟩ := p
        have c1 := came_all s f (.lev (n + 1)) i o i1 o1 h1 (show n + 1 ≤ 3 by omega) hi
        have c2 := came_all s f (.loop n) i1 o1 i2 o2 (h3 i1 o1 rfl) (show n ≤ 2 by omega) c1.le
        refine c1.then c2 fun n a b ha hb => ?_
        show hrun n (a ++ b) = _
        rw [hrun_append, show hrun n a = _ from ha]
        exact hb
  | f + 1, .loop n, i, o, i2, o2, h, hmd, hi => by
    unfold prs at h
    have hsl := skip_le hi
    have hsg := skip_ge s i
    split at h
    · have h1 := Prod.mk.inj (Option.some.inj (Option.some.inj h))
      rw [← h1.1, ← h1.2]
      exact ⟨hsg, hsl, [], by simp, fun n => rfl, fun x hx => by cases hx⟩
    · rename_i k hk
      obtain ⟨hk1, hn, x, hx⟩ := opK_in hk
      have hlt := (List.getElem?_eq_some_iff.1 hx).1
      obtain ⟨r1, h1, h2, h3⟩ := thenP_got h
      cases r1 with
      | none => cases h2 rfl
      | some p =>
        obtain ⟨i1, o1⟩ := p
        have c1 := came_all s f (.lev (n + 1)) (skip s i + 1) o i1 o1 h1 (show n + 1 ≤ 3 by omega) (by omega)
        have c2 := came_all s f (.loop n) i1 (o1 ++ [nd k]) i2 o2 (h3 i1 o1 rfl) hmd c1.le
        obtain ⟨l, rfl, a, b⟩ := c1.row
        obtain ⟨l', rfl, a', b'⟩ := c2.row
        refine ⟨by have := c1.ge; have := c2.ge; omega, c2.le, l ++ ([nd k] ++ l'), by simp, fun m => ?_, fun y hy => ?_⟩
        · show hrun (m + 1) (l ++ ([nd k] ++ l')) = _
          rw [hrun_append, show hrun (m + 1) l = _ from a (m + 1)]
          show hrun (m + 1 + 1) ([nd k] ++ l') = _
          rw [hrun_append, hrun_op2 (arity_nd2 hk1)]
          exact a' m
        · rcases List.mem_append.1 hy with hy | hy
          · exact b y hy
          · rcases List.mem_append.1 hy with hy | hy
            · rw [List.mem_singleton] at hy
              subst hy
              exact goodP_op (by omega)
            · exact b' y hy
  | f + 1, .fac, i, o, i2, o2, h, hmd, hi => by
    unfold prs at h
    have hsg := skip_ge s i
    have sign : ∀ (c : UInt8) (k : Int), stands s i [c] = true → 3 ≤ k ∧ k ≤ 7 → thenP (prs s f .fac (skip s i + 1) o) (fun i o => some (some (i, o ++ [nd k]))) = some (some (i2, o2)) → Came s .fac i o i2 o2 := fun c k hs hk h => by
      have hle := stands_le hi hs
      obtain ⟨r1, h1, h2, h3⟩ := thenP_got h
      cases r1 with
      | none => cases h2 rfl
      | some p =>
        obtain ⟨i1, o1⟩ := p
        have c1 := came_all s f .fac (skip s i + 1) o i1 o1 h1 trivial (by simpa using hle)
        have h4 := Prod.mk.inj (Option.some.inj (Option.some.inj (h3 i1 o1 rfl)))
        rw [← h4.1, ← h4.2]
        exact c1.one (fun n l hl => hl) hk (by omega) (Nat.le_refl _) c1.le
    have word : ∀ (t : List UInt8) (k : Int), stands s i t = true → 5 ≤ k ∧ k ≤ 7 → prs s f (.word k) (skip s i + t.length) o = some (some (i2, o2)) → Came s .fac i o i2 o2 := fun t k hs hk h => by
      have hle := stands_le hi hs
      have c1 := came_all s f (.word k) _ o i2 o2 h hk hle
      exact ⟨by have := c1.ge; omega, c1.le, c1.row⟩
    split at h
    · rename_i hs; exact sign 43 3 hs (by omega) h
    split at h
    · rename_i hs; exact sign 45 4 hs (by omega) h
    split at h
    · rename_i hs
      have hle := stands_le hi hs
      obtain ⟨r1, h1, h2, h3⟩ := thenP_got h
      cases r1 with
      | none => cases h2 rfl
      | some p =>
        obtain ⟨i1, o1⟩ := p
        have c1 := came_all s f (.lev 0) (skip s i + 1) o i1 o1 h1 (show 0 ≤ 3 by omega) (by simpa using hle)
        have h4 := h3 i1 o1 rfl
        unfold shutP at h4
        split at h4
        · rename_i hs2
          have hle2 := stands_le c1.le hs2
          have h5 := Prod.mk.inj (Option.some.inj (Option.some.inj h4))
          rw [← h5.1, ← h5.2, List.append_nil]
          refine ⟨by have := c1.ge; have := skip_ge s i1; omega, by simpa using hle2, c1.row⟩
        · cases h4
    split at h
    · rename_i hs; exact word _ 5 hs (by omega) h
    split at h
    · rename_i hs; exact word _ 6 hs (by omega) h
    split at h
    · rename_i hs; exact word _ 7 hs (by omega) h
    split at h
    · exact slotP_came (by omega) (Option.some.inj h)
    · have c1 := numF_came (skip_le hi) (Option.some.inj h)
      exact ⟨by have := c1.ge; omega, c1.le, c1.row⟩
  | f + 1, .word k, i, o, i2, o2, h, hmd, hi => by
    unfold prs at h
    have hsg := skip_ge s i
    split at h
    · rename_i hs
      have hle := stands_le hi hs
      obtain ⟨r1, h1, h2, h3⟩ := thenP_got h
      cases r1 with
      | none => cases h2 rfl
      | some p =>
        obtain ⟨i1, o1⟩ := p
        have c1 := came_all s f (.lev 0) (skip s i + 1) o i1 o1 h1 (show 0 ≤ 3 by omega) (by simpa using hle)
        have h4 := h3 i1 o1 rfl
        unfold shutP at h4
        split at h4
        · rename_i hs2
          have hle2 := stands_le c1.le hs2
          have h5 := Prod.mk.inj (Option.some.inj (Option.some.inj h4))
          rw [← h5.1, ← h5.2]
          have hk : 5 ≤ k ∧ k ≤ 7 := hmd
          have c2 := c1.one (i := i) (i2 := skip s i1 + 1) (k := k) (fun n l hl => hl) (by omega) (by omega) (by have := skip_ge s i1; omega) (by simpa using hle2)
          exact ⟨c2.ge, c2.le, c2.row⟩
        · cases h4
    · cases h
/-- How much breath is enough. -/
def need : Md → Nat
  | .loop _ => 1
  | .fac => 1
  | .lev n => 5 - n
  | .word _ => 6
theorem thenP_ok {x : Option (Option St)} {g : Nat → List Nd → Option (Option St)} (h : ∃ r, x = some r) (h' : ∀ i o, x = some (some (i, o)) → ∃ r, g i o = some r) : ∃ r, thenP x g = some r := by
  obtain ⟨r, hr⟩ := h
  subst hr
  cases r with
  | none => exact ⟨none, rfl⟩
  | some p => exact h' p.1 p.2 rfl
theorem shutP_ok (s : List UInt8) (t : List Nd) (i : Nat) (o : List Nd) : ∃ r, shutP s t i o = some r := by
  unfold shutP
  split
  · exact ⟨_, rfl⟩
  · exact ⟨_, rfl⟩
theorem prs_total (s : List UInt8) : ∀ (F : Nat) (md : Md) (i : Nat) (o : List Nd), MdOk md → i ≤ s.length → 10 * (s.length - i) + need md ≤ F → ∃ r, prs s F md i o = some r
  | 0, md, i, o, _, _, h => by cases md <;> simp [need] at h <;> (try omega)
                               all_goals (rename_i n hn; have : n ≤ 3 := hn; omega)
  | F + 1, .lev n, i, o, hmd, hi, h => by
    unfold prs
    have hn3 : n ≤ 3 := hmd
    have h' : 10 * (s.length - i) + (5 - n) ≤ F + 1 := h
    split
    · exact prs_total s F .fac i o trivial hi (by show _ + 1 ≤ _; omega)
    · refine thenP_ok (prs_total s F (.lev (n + 1)) i o (show n + 1 ≤ 3 by omega) hi (by show _ + (5 - (n + 1)) ≤ _; omega)) fun i1 o1 h1 => ?_
      have c1 := came_all s F (.lev (n + 1)) i o i1 o1 h1 (show n + 1 ≤ 3 by omega) hi
      exact prs_total s F (.loop n) i1 o1 (show n ≤ 2 by omega) c1.le (by show _ + 1 ≤ _; have := c1.ge; omega)
  | F + 1, .loop n, i, o, hmd, hi, h => by
    unfold prs
    have hsl := skip_le hi
    have hsg := skip_ge s i
    have h' : 10 * (s.length - i) + 1 ≤ F + 1 := h
    split
    · exact ⟨_, rfl⟩
    · rename_i k hk
      obtain ⟨hk1, hn, x, hx⟩ := opK_in hk
      have hlt := (List.getElem?_eq_some_iff.1 hx).1
      refine thenP_ok (prs_total s F (.lev (n + 1)) _ o (show n + 1 ≤ 3 by omega) (by omega) (by show _ + (5 - (n + 1)) ≤ _; omega)) fun i1 o1 h1 => ?_
      have c1 := came_all s F (.lev (n + 1)) _ o i1 o1 h1 (show n + 1 ≤ 3 by omega) (by omega)
      exact prs_total s F (.loop n) i1 _ hmd c1.le (by show _ + 1 ≤ _; have := c1.ge; omega)
  | F + 1, .fac, i, o, hmd, hi, h => by
    unfold prs
    have hsg := skip_ge s i
    have h' : 10 * (s.length - i) + 1 ≤ F + 1 := h
    have sign : ∀ (c : UInt8) (k : Int), stands s i [c] = true → ∃ r, thenP (prs s F .fac (skip s i + 1) o) (fun i o => some (some (i, o ++ [nd k]))) = some r := fun c k hs => by
      have hle := stands_le hi hs
      simp at hle
      exact thenP_ok (prs_total s F .fac _ o trivial (by omega) (by show _ + 1 ≤ _; omega)) fun _ _ _ => ⟨_, rfl⟩
    have word : ∀ (c : UInt8) (t : List UInt8) (k : Int), stands s i (c :: t) = true → 5 ≤ k ∧ k ≤ 7 → ∃ r, prs s F (.word k) (skip s i + (t.length + 1)) o = some r := fun c t k hs hk => by
      have hle := stands_le hi hs
      simp at hle
      exact prs_total s F (.word k) _ o hk (by omega) (by show _ + 6 ≤ _; omega)
    split
    · rename_i hs; exact sign 43 3 hs
    split
    · rename_i hs; exact sign 45 4 hs
    split
    · rename_i hs
      have hle := stands_le hi hs
      simp at hle
      exact thenP_ok (prs_total s F (.lev 0) _ o (show 0 ≤ 3 by omega) (by omega) (by show _ + 5 ≤ _; omega)) fun i1 o1 _ => shutP_ok s [] i1 o1
    split
    · rename_i hs; exact word 99 [111, 110, 106] 5 hs (by omega)
    split
    · rename_i hs; exact word 114 [101] 6 hs (by omega)
    split
    · rename_i hs; exact word 105 [109] 7 hs (by omega)
    split
    · exact ⟨_, rfl⟩
    · exact ⟨_, rfl⟩
  | F + 1, .word k, i, o, hmd, hi, h => by
    unfold prs
    have hsg := skip_ge s i
    have h' : 10 * (s.length - i) + 6 ≤ F + 1 := h
    split
    · rename_i hs
      have hle := stands_le hi hs
      simp at hle
      exact thenP_ok (prs_total s F (.lev 0) _ o (show 0 ≤ 3 by omega) (by omega) (by show _ + 5 ≤ _; omega)) fun i1 o1 _ => shutP_ok s [nd k] i1 o1
    · exact ⟨_, rfl⟩
theorem prs_long {s : List UInt8} {f : Nat} {md : Md} {i : Nat} {o : List Nd} {r : Option St} (h : prs s f md i o = some r) (hmd : MdOk md) (hi : i ≤ s.length) (ho : 60 < o.length) : Long r := by
  cases r with
  | none => exact .inl rfl
  | some p =>
    obtain ⟨l, hl, _⟩ := (came_all s f md i o p.1 p.2 h hmd hi).row
    exact .inr ⟨p, rfl, by rw [hl, List.length_append]; omega⟩
end Go.Proofs.YtjgjgjkffoagoaaDoor
