/-
  What is proved here: the plain laws of a record's text: its words, cut at blanks in two ways, and that one text is the text of one record. No condition.
-/
import Derived.Test.YtldcciipicnooaaDoorPq
import Derived.Lib.SplitLaws
import Derived.Lib.IndexBytes
namespace Go.Proofs.YtldcciipicnooaaDoor
open Go.RowKit
open Go.Lib (itoa decDigits nDigits nDigits_le20 itoa_length_le)
set_option maxRecDepth 100000
set_option linter.unusedVariables false
set_option linter.unusedSimpArgs false

/-- The four words with a blank between each two. -/
abbrev four (A B C D : List UInt8) : List UInt8 := A ++ [32] ++ B ++ [32] ++ C ++ [32] ++ D
theorem four_eq (A B C D : List UInt8) : four A B C D = A ++ 32 :: (B ++ 32 :: (C ++ 32 :: D)) := by simp [four]

theorem itoa_bytes (m : Int) : ∀ c ∈ itoa m, 45 ≤ c.toNat ∧ c.toNat ≤ 57 := by
  intro c hc
  rw [itoa_abs] at hc
  rcases List.mem_append.1 hc with h | h
  · by_cases hn : m < 0
    · simp [hn] at h; subst h; decide
    · simp [hn] at h
  · have := figs_decDigits _ c h; omega
theorem itoa_no (m : Int) : (32 : UInt8) ∉ itoa m := fun h => by have := itoa_bytes m 32 h; simp at this
theorem itoa_ne (m : Int) : itoa m ≠ [] := by
  rw [itoa_abs]
  intro h
  have hl := congrArg List.length h
  have := dec_pos m.natAbs
  rw [List.length_append, List.length_nil] at hl
  omega

/-! ### Cut at each blank -/
theorem idx_front : ∀ (A B : List UInt8), (32 : UInt8) ∉ A → Lib.indexByte (A ++ 32 :: B) 32 = A.length
  | [], B, _ => rfl
  | a :: A, B, h => by
    have ha : a ≠ 32 := fun e => h (by rw [e]; simp)
    have ih := idx_front A B (fun e => h (List.mem_cons_of_mem _ e))
    show Lib.indexByte (a :: (A ++ 32 :: B)) 32 = _
    rw [Lib.indexByte, ih]
    have e1 : (a == 32) = false := beq_eq_false_iff_ne.2 ha
    have e2 : ((A.length : Int) == -1) = false := beq_eq_false_iff_ne.2 (by omega)
    simp [e1, e2]
theorem split_front (k : Nat) (A B : List UInt8) (h : (32 : UInt8) ∉ A) : Lib.splitK [32] 0 (k + 1) (A ++ 32 :: B) = A :: Lib.splitK [32] 0 k B := by
  have hi : Lib.index (A ++ 32 :: B) [32] = A.length := by rw [Lib.index_one, idx_front A B h]
  have e2 : ((A.length : Int) == -1) = false := beq_eq_false_iff_ne.2 (by omega)
  rw [Lib.splitK, hi]
  simp [e2]
theorem split_four (A B C D : List UInt8) (hA : (32 : UInt8) ∉ A) (hB : (32 : UInt8) ∉ B) (hC : (32 : UInt8) ∉ C) (hD : (32 : UInt8) ∉ D) : Lib.split (four A B C D) [32] = [A, B, C, D] := by
  have hc : Lib.count (four A B C D) [32] = 3 := by
    rw [Lib.count_one, four_eq]
    simp [List.count_append, List.count_cons, List.count_eq_zero_of_not_mem hA, List.count_eq_zero_of_not_mem hB, List.count_eq_zero_of_not_mem hC, List.count_eq_zero_of_not_mem hD]
  unfold Lib.split
  rw [hc, four_eq, split_front 2 A _ hA, split_front 1 B _ hB, split_front 0 C _ hC]
  rfl

/-! ### Cut at runs of blanks -/
def spStep (st : List (List UInt8) × List UInt8) (c : UInt8) : List (List UInt8) × List UInt8 := if c = 32 then (if st.2 = [] then st else (st.1 ++ [st.2], [])) else (st.1, st.2 ++ [c])
def spSt (l : List UInt8) : List (List UInt8) × List UInt8 := l.foldl spStep ([], [])
def spOut (l : List UInt8) : List (List UInt8) := if (spSt l).2 = [] then (spSt l).1 else (spSt l).1 ++ [(spSt l).2]
theorem spSt_snoc (l : List UInt8) (c : UInt8) : spSt (l ++ [c]) = spStep (spSt l) c := by simp [spSt]
theorem sp_word : ∀ (A : List UInt8) (o : List (List UInt8)) (c : List UInt8), (32 : UInt8) ∉ A → A.foldl spStep (o, c) = (o, c ++ A)
  | [], o, c, _ => by simp
  | a :: A, o, c, h => by
    have ha : a ≠ 32 := fun e => h (by rw [e]; simp)
    rw [List.foldl_cons, spStep, if_neg ha, sp_word A _ _ (fun e => h (List.mem_cons_of_mem _ e))]
    simp
theorem sp_front (A B : List UInt8) (o : List (List UInt8)) (h : (32 : UInt8) ∉ A) (hne : A ≠ []) : (A ++ 32 :: B).foldl spStep (o, []) = B.foldl spStep (o ++ [A], []) := by
  rw [List.foldl_append, sp_word A o [] h, List.foldl_cons, spStep, if_pos rfl]
  simp [hne]
theorem sp_four (A B C D : List UInt8) (hA : (32 : UInt8) ∉ A) (hB : (32 : UInt8) ∉ B) (hC : (32 : UInt8) ∉ C) (hD : (32 : UInt8) ∉ D) (nA : A ≠ []) (nB : B ≠ []) (nC : C ≠ []) (nD : D ≠ []) : spOut (four A B C D) = [A, B, C, D] := by
  have e : spSt (four A B C D) = ([A, B, C], D) := by
    unfold spSt
    rw [four_eq, sp_front A _ _ hA nA, sp_front B _ _ hB nB, sp_front C _ _ hC nC, sp_word D _ _ hD]
    simp
  unfold spOut
  rw [e]
  simp [nD]

/-! ### What is read -/
theorem recTx_of {a b c d : Int} (h : recOk a b c d) : recTx a b c d = four (itoa a) (itoa b) (itoa c) (itoa d) := by
  unfold recTx
  rw [if_pos h]
theorem rec_range {a b c d : Int} (h : recOk a b c d) : (0 ≤ a ∧ a ≤ 5) ∧ (0 ≤ b ∧ b ≤ 11) ∧ (-32767 ≤ c ∧ c ≤ 32767) ∧ (-32767 ≤ d ∧ d ≤ 32767) := by
  obtain ⟨h1, h2, h3, h4⟩ := h
  simp [inR] at h1 h2 h3 h4
  exact ⟨h1, h2, h3, h4⟩
theorem rec_split {a b c d : Int} (h : recOk a b c d) : Lib.split (recTx a b c d) [32] = [itoa a, itoa b, itoa c, itoa d] := by
  rw [recTx_of h, split_four _ _ _ _ (itoa_no a) (itoa_no b) (itoa_no c) (itoa_no d)]
theorem rec_fields {a b c d : Int} (h : recOk a b c d) : spOut (recTx a b c d) = [itoa a, itoa b, itoa c, itoa d] := by
  rw [recTx_of h, sp_four _ _ _ _ (itoa_no a) (itoa_no b) (itoa_no c) (itoa_no d) (itoa_ne a) (itoa_ne b) (itoa_ne c) (itoa_ne d)]
theorem rec_clean {a b c d : Int} (h : recOk a b c d) : ∀ x ∈ recTx a b c d, 32 ≤ x.toNat ∧ x.toNat ≤ 126 := by
  rw [recTx_of h]
  intro x hx
  simp only [four, List.append_assoc, List.mem_append, List.mem_cons, List.not_mem_nil, or_false] at hx
  rcases hx with h | h | h | h | h | h | h
  · have := itoa_bytes a x h; omega
  · subst h; decide
  · have := itoa_bytes b x h; omega
  · subst h; decide
  · have := itoa_bytes c x h; omega
  · subst h; decide
  · have := itoa_bytes d x h; omega
theorem rec_len {a b c d : Int} (h : recOk a b c d) : (recTx a b c d).length ≤ 600 := by
  obtain ⟨h1, h2, h3, h4⟩ := rec_range h
  have := itoa_length_le a (by omega) (by omega)
  have := itoa_length_le b (by omega) (by omega)
  have := itoa_length_le c (by omega) (by omega)
  have := itoa_length_le d (by omega) (by omega)
  rw [recTx_of h]
  simp [four]
  omega
theorem rec_inj {a b c d x y z u : Int} (h : recOk a b c d) (g : recOk x y z u) (e : recTx a b c d = recTx x y z u) : a = x ∧ b = y ∧ c = z ∧ d = u := by
  have s := rec_split h
  rw [e, rec_split g] at s
  simp only [List.cons.injEq, and_true] at s
  exact ⟨(itoa_inj s.1).symm, (itoa_inj s.2.1).symm, (itoa_inj s.2.2.1).symm, (itoa_inj s.2.2.2).symm⟩

/-- What is read of a record's text. -/
def RpR (l : List UInt8) (a b c d : Int) (ok : Bool) : Prop :=
  (ok = true → recOk a b c d ∧ recTx a b c d = l) ∧ (ok = false → (a = 0 ∧ b = 0 ∧ c = 0 ∧ d = 0) ∧ ∀ x y z u, recOk x y z u → recTx x y z u ≠ l)
theorem RpR.unique {l : List UInt8} {a b c d x y z u : Int} {o p : Bool} (h : RpR l a b c d o) (g : RpR l x y z u p) : a = x ∧ b = y ∧ c = z ∧ d = u ∧ o = p := by
  cases o <;> cases p
  · obtain ⟨⟨h1, h2, h3, h4⟩, _⟩ := h.2 rfl
    obtain ⟨⟨g1, g2, g3, g4⟩, _⟩ := g.2 rfl
    exact ⟨by rw [h1, g1], by rw [h2, g2], by rw [h3, g3], by rw [h4, g4], rfl⟩
  · obtain ⟨g1, g2⟩ := g.1 rfl
    exact ((h.2 rfl).2 x y z u g1 g2).elim
  · obtain ⟨g1, g2⟩ := h.1 rfl
    exact ((g.2 rfl).2 a b c d g1 g2).elim
  · obtain ⟨h1, h2⟩ := h.1 rfl
    obtain ⟨g1, g2⟩ := g.1 rfl
    obtain ⟨e1, e2, e3, e4⟩ := rec_inj h1 g1 (h2.trans g2.symm)
    exact ⟨e1, e2, e3, e4, rfl⟩
theorem rp_none (l : List UInt8) (h : ∀ x y z u, recOk x y z u → recTx x y z u ≠ l) : RpR l 0 0 0 0 false := ⟨by simp, fun _ => ⟨⟨rfl, rfl, rfl, rfl⟩, h⟩⟩
theorem recTx_ok {a b c d : Int} {l : List UInt8} (h : recTx a b c d = l) (hl : l ≠ []) : recOk a b c d := by
  by_cases hr : recOk a b c d
  · exact hr
  · unfold recTx at h
    rw [if_neg hr] at h
    exact absurd h.symm hl

/-- What is read of a whole number, the reference's way. -/
def NinR (t : List UInt8) (n : Int) (ok : Bool) : Prop := (-1000000000 ≤ n ∧ n ≤ 1000000000) ∧ ∀ m : Int, InQ m → itoa m = t → n = m ∧ ok = true
theorem nin_minus (t : List UInt8) (h1 : 1 < t.length) (r : Int) (ok : Bool) (h : PuR (t.drop 1) r ok) (hc : t[0].toNat = 45) : NinR t (-r) ok := by
  have hr := h.range
  refine ⟨by omega, fun m hm e => ?_⟩
  by_cases hn : m < 0
  · rw [itoa_abs, if_pos hn] at e
    subst e
    obtain ⟨a, b⟩ := h.full m.natAbs (by have := hm.1; have := hm.2; omega) rfl
    exact ⟨by omega, a⟩
  · have f := figs_itoa m (by omega)
    rw [e] at f
    have := f t[0] (List.getElem_mem _)
    omega
theorem nin_plus (t : List UInt8) (r : Int) (ok : Bool) (h : PuR t r ok) (hc : t.length ≤ 1 ∨ ∃ h : 0 < t.length, t[0].toNat ≠ 45) : NinR t r ok := by
  have hr := h.range
  refine ⟨by omega, fun m hm e => ?_⟩
  by_cases hn : m < 0
  · exfalso
    rw [itoa_abs, if_pos hn] at e
    subst e
    rcases hc with hc | ⟨_, hc⟩
    · have := dec_pos m.natAbs
      simp at hc
      rw [hc] at this
      simp at this
    · simp at hc
  · rw [itoa_abs, if_neg hn] at e
    obtain ⟨a, b⟩ := h.full m.natAbs (by have := hm.1; have := hm.2; omega) (by simpa using e)
    exact ⟨by omega, a⟩
end Go.Proofs.YtldcciipicnooaaDoor
