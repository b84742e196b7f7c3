/- The text of a tree is read as its nodes: the factors. No program in sight. -/
import Derived.Test.YtjgjgjkffoagoaaDoorTree
namespace Go.Proofs.YtjgjgjkffoagoaaDoor
open Go.RowKit
open Go.Lib (itoa decDigits nDigits nDigits_le20 itoa_length_le)
set_option maxRecDepth 100000
set_option maxHeartbeats 1000000
set_option linter.unusedVariables false
set_option linter.unusedSimpArgs false

theorem hp_no (c d : UInt8) (B t : List UInt8) (h : d ≠ c) : Lib.hasPrefix (c :: B) (d :: t) = false := by
  show ((d == c) && t.isPrefixOf B) = false
  rw [beq_eq_false_iff_ne.2 h]; rfl
theorem hp_yes (t B : List UInt8) : Lib.hasPrefix (t ++ B) t = true := by
  unfold Lib.hasPrefix
  exact List.isPrefixOf_iff_prefix.2 (List.prefix_append t B)
theorem hp_one (c : UInt8) (B : List UInt8) : Lib.hasPrefix (c :: B) [c] = true := hp_yes [c] B
section
variable {A B : List UInt8} {i i' : Nat} {out o : List Nd} {r : Option St}
theorem fac_plus (hi : skip (A ++ (43 :: B)) i = A.length) (h : Pr (A ++ (43 :: B)) .fac (A.length + 1) out (some (i', o))) : Pr (A ++ (43 :: B)) .fac i out (some (i', o ++ [nd 3])) := by
  obtain ⟨f, h⟩ := h
  refine ⟨f + 1, ?_⟩
  show (if stands (A ++ (43 :: B)) i [43] then thenP (prs (A ++ (43 :: B)) f .fac (skip (A ++ (43 :: B)) i + 1) out) (fun i o => some (some (i, o ++ [nd 3]))) else _) = _
  rw [stands_app hi, if_pos (hp_one 43 B), hi, h]
  rfl
theorem fac_minus (hi : skip (A ++ (45 :: B)) i = A.length) (h : Pr (A ++ (45 :: B)) .fac (A.length + 1) out (some (i', o))) : Pr (A ++ (45 :: B)) .fac i out (some (i', o ++ [nd 4])) := by
  obtain ⟨f, h⟩ := h
  refine ⟨f + 1, ?_⟩
  show (if stands (A ++ (45 :: B)) i [43] then _ else if stands (A ++ (45 :: B)) i [45] then thenP (prs (A ++ (45 :: B)) f .fac (skip (A ++ (45 :: B)) i + 1) out) (fun i o => some (some (i, o ++ [nd 4]))) else _) = _
  rw [stands_app hi, stands_app hi, hp_no _ _ _ _ (by decide), if_neg (by decide), if_pos (hp_one 45 B), hi, h]
  rfl
theorem fac_open (hi : skip (A ++ (40 :: B)) i = A.length) (h : Pr (A ++ (40 :: B)) (.lev 0) (A.length + 1) out (some (i', o))) (hs : stands (A ++ (40 :: B)) i' [41] = true) : Pr (A ++ (40 :: B)) .fac i out (some (skip (A ++ (40 :: B)) i' + 1, o)) := by
  obtain ⟨f, h⟩ := h
  refine ⟨f + 1, ?_⟩
  show (if stands (A ++ (40 :: B)) i [43] then _ else if stands (A ++ (40 :: B)) i [45] then _ else if stands (A ++ (40 :: B)) i [40] then thenP (prs (A ++ (40 :: B)) f (.lev 0) (skip (A ++ (40 :: B)) i + 1) out) (shutP (A ++ (40 :: B)) []) else _) = _
  rw [stands_app hi, stands_app hi, stands_app hi, hp_no _ _ _ _ (by decide), if_neg (by decide), hp_no _ _ _ _ (by decide), if_neg (by decide), if_pos (hp_one 40 B), hi, h]
  show shutP (A ++ (40 :: B)) [] i' o = _
  unfold shutP
  rw [hs]
  simp
/-- A word that opens: its parenthesis, what stands within, the closing one. -/
theorem word_open {k : Int} {j : Nat} {s : List UInt8} (hj : stands s j [40] = true) (h : Pr s (.lev 0) (skip s j + 1) out (some (i', o))) (hs : stands s i' [41] = true) : Pr s (.word k) j out (some (skip s i' + 1, o ++ [nd k])) := by
  obtain ⟨f, h⟩ := h
  refine ⟨f + 1, ?_⟩
  show (if stands s j [40] then thenP (prs s f (.lev 0) (skip s j + 1) out) (shutP s [nd k]) else some none) = _
  rw [if_pos hj, h]
  show shutP s [nd k] i' o = _
  unfold shutP
  rw [hs]; rfl
theorem fac_conj (hi : skip (A ++ ([99, 111, 110, 106] ++ B)) i = A.length) (h : Pr (A ++ ([99, 111, 110, 106] ++ B)) (.word 5) (A.length + 4) out r) : Pr (A ++ ([99, 111, 110, 106] ++ B)) .fac i out r := by
  obtain ⟨f, h⟩ := h
  refine ⟨f + 1, ?_⟩
  show (if stands _ i [43] then _ else if stands _ i [45] then _ else if stands _ i [40] then _ else if stands _ i [99, 111, 110, 106] then prs _ f (.word 5) (skip _ i + 4) out else _) = _
  rw [stands_app hi, stands_app hi, stands_app hi, stands_app hi]
  rw [if_neg (by rw [show Lib.hasPrefix ([99, 111, 110, 106] ++ B) [43] = false from hp_no _ _ _ _ (by decide)]; decide), if_neg (by rw [show Lib.hasPrefix ([99, 111, 110, 106] ++ B) [45] = false from hp_no _ _ _ _ (by decide)]; decide), if_neg (by rw [show Lib.hasPrefix ([99, 111, 110, 106] ++ B) [40] = false from hp_no _ _ _ _ (by decide)]; decide), if_pos (hp_yes _ B), hi]
  exact h
theorem fac_re (hi : skip (A ++ ([114, 101] ++ B)) i = A.length) (h : Pr (A ++ ([114, 101] ++ B)) (.word 6) (A.length + 2) out r) : Pr (A ++ ([114, 101] ++ B)) .fac i out r := by
  obtain ⟨f, h⟩ := h
  refine ⟨f + 1, ?_⟩
  show (if stands _ i [43] then _ else if stands _ i [45] then _ else if stands _ i [40] then _ else if stands _ i [99, 111, 110, 106] then _ else if stands _ i [114, 101] then prs _ f (.word 6) (skip _ i + 2) out else _) = _
  rw [stands_app hi, stands_app hi, stands_app hi, stands_app hi, stands_app hi]
  rw [if_neg (by rw [show Lib.hasPrefix ([114, 101] ++ B) [43] = false from hp_no _ _ _ _ (by decide)]; decide), if_neg (by rw [show Lib.hasPrefix ([114, 101] ++ B) [45] = false from hp_no _ _ _ _ (by decide)]; decide), if_neg (by rw [show Lib.hasPrefix ([114, 101] ++ B) [40] = false from hp_no _ _ _ _ (by decide)]; decide), if_neg (by rw [show Lib.hasPrefix ([114, 101] ++ B) [99, 111, 110, 106] = false from hp_no _ _ _ _ (by decide)]; decide), if_pos (hp_yes _ B), hi]
  exact h
theorem fac_im (hi : skip (A ++ ([105, 109] ++ B)) i = A.length) (h : Pr (A ++ ([105, 109] ++ B)) (.word 7) (A.length + 2) out r) : Pr (A ++ ([105, 109] ++ B)) .fac i out r := by
  obtain ⟨f, h⟩ := h
  refine ⟨f + 1, ?_⟩
  show (if stands _ i [43] then _ else if stands _ i [45] then _ else if stands _ i [40] then _ else if stands _ i [99, 111, 110, 106] then _ else if stands _ i [114, 101] then _ else if stands _ i [105, 109] then prs _ f (.word 7) (skip _ i + 2) out else _) = _
  rw [stands_app hi, stands_app hi, stands_app hi, stands_app hi, stands_app hi, stands_app hi]
  rw [if_neg (by rw [show Lib.hasPrefix ([105, 109] ++ B) [43] = false from hp_no _ _ _ _ (by decide)]; decide), if_neg (by rw [show Lib.hasPrefix ([105, 109] ++ B) [45] = false from hp_no _ _ _ _ (by decide)]; decide), if_neg (by rw [show Lib.hasPrefix ([105, 109] ++ B) [40] = false from hp_no _ _ _ _ (by decide)]; decide), if_neg (by rw [show Lib.hasPrefix ([105, 109] ++ B) [99, 111, 110, 106] = false from hp_no _ _ _ _ (by decide)]; decide), if_neg (by rw [show Lib.hasPrefix ([105, 109] ++ B) [114, 101] = false from hp_no _ _ _ _ (by decide)]; decide), if_pos (hp_yes _ B), hi]
  exact h
/-- None of the words and signs. -/
theorem fac_num (c : UInt8) (hc : 48 ≤ c.toNat ∧ c.toNat ≤ 57) (hi : skip (A ++ (c :: B)) i = A.length) : Pr (A ++ (c :: B)) .fac i out (numF (A ++ (c :: B)) A.length out) := by
  refine ⟨1, ?_⟩
  have key : ∀ d t, ¬ (48 ≤ (d : UInt8).toNat ∧ d.toNat ≤ 57) → stands (A ++ (c :: B)) i (d :: t) = false := fun d t hd => by
    rw [stands_app hi]
    exact hp_no _ _ _ _ (fun h => hd (h ▸ hc))
  show (if stands _ i [43] then _ else if stands _ i [45] then _ else if stands _ i [40] then _ else if stands _ i [99, 111, 110, 106] then _ else if stands _ i [114, 101] then _ else if stands _ i [105, 109] then _ else if stands _ i [115] then _ else some (numF _ (skip _ i) out)) = _
  rw [if_neg (by rw [key 43 _ (by decide)]; decide), if_neg (by rw [key 45 _ (by decide)]; decide), if_neg (by rw [key 40 _ (by decide)]; decide), if_neg (by rw [key 99 _ (by decide)]; decide), if_neg (by rw [key 114 _ (by decide)]; decide), if_neg (by rw [key 105 _ (by decide)]; decide), if_neg (by rw [key 115 _ (by decide)]; decide), hi]
theorem fac_slot (c : UInt8) (hc : isFig c = true) (hi : skip (A ++ (115 :: c :: B)) i = A.length) : Pr (A ++ (115 :: c :: B)) .fac i out (some (A.length + 2, out ++ [⟨2, (c.toNat : Int) - 48, 0, 0⟩])) := by
  refine ⟨1, ?_⟩
  have key : ∀ d t, d ≠ 115 → stands (A ++ (115 :: c :: B)) i (d :: t) = false := fun d t hd => by
    rw [stands_app hi]
    exact hp_no _ _ _ _ hd
  show (if stands _ i [43] then _ else if stands _ i [45] then _ else if stands _ i [40] then _ else if stands _ i [99, 111, 110, 106] then _ else if stands _ i [114, 101] then _ else if stands _ i [105, 109] then _ else if stands _ i [115] then some (slotP _ (skip _ i + 1) out) else _) = _
  rw [if_neg (by rw [key 43 _ (by decide)]; decide), if_neg (by rw [key 45 _ (by decide)]; decide), if_neg (by rw [key 40 _ (by decide)]; decide), if_neg (by rw [key 99 _ (by decide)]; decide), if_neg (by rw [key 114 _ (by decide)]; decide), if_neg (by rw [key 105 _ (by decide)]; decide), if_pos (by rw [stands_app hi]; exact hp_yes [115] (c :: B)), hi]
  rw [slotP_yes (c := c) (by rw [get_app]; rfl) hc]
end
end Go.Proofs.YtjgjgjkffoagoaaDoor
