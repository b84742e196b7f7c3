/- Expressions as trees, their nodes and their texts; the text of a tree is read as its nodes. No program in sight. -/
import Derived.Test.YtjgjgjkffoagoaaDoorGram
namespace Go.Proofs.YtjgjgjkffoagoaaDoor
open Go.RowKit
open Go.Lib (itoa decDigits nDigits nDigits_le20 itoa_length_le)
set_option maxRecDepth 100000
set_option maxHeartbeats 1000000
set_option linter.unusedVariables false
set_option linter.unusedSimpArgs false

inductive Ex where
  | leaf (x : Nd) (t : List UInt8)
  | one (x : Nd) (a : Ex)
  | two (x : Nd) (a b : Ex)
/-- How a kind binds. -/
def stg (k : Int) : Nat := if k = 12 then 1 else if k = 8 ∨ k = 9 then 2 else if k = 10 ∨ k = 11 then 3 else if k = 3 ∨ k = 4 then 4 else 5
def Ex.root : Ex → Nd
  | .leaf x _ => x
  | .one x _ => x
  | .two x _ _ => x
def Ex.flat : Ex → List Nd
  | .leaf x _ => [x]
  | .one x a => a.flat ++ [x]
  | .two x a b => a.flat ++ b.flat ++ [x]
def Ex.str (t : Ex) : Nat := stg t.root.kind
def ins (least : Nat) (t : List UInt8) (b : Nat) : List UInt8 := if b < least then 40 :: (t ++ [41]) else t
def opT (k : Int) : List UInt8 := if k = 8 then [32, 43, 32] else if k = 9 then [32, 45, 32] else if k = 10 then [32, 42, 32] else if k = 11 then [32, 47, 32] else [32, 61, 32]
def wordT (k : Int) : List UInt8 := if k = 5 then [99, 111, 110, 106, 40] else if k = 6 then [114, 101, 40] else [105, 109, 40]
def Ex.txt : Ex → List UInt8
  | .leaf _ t => t
  | .one x a => if x.kind = 3 then 43 :: ins 4 a.txt a.str else if x.kind = 4 then 45 :: ins 4 a.txt a.str else wordT x.kind ++ (a.txt ++ [41])
  | .two x a b => ins (stg x.kind) a.txt a.str ++ (opT x.kind ++ ins (stg x.kind + 1) b.txt b.str)
/-- A number or a slot, and its text. -/
def LeafOk (x : Nd) (t : List UInt8) : Prop :=
  (∃ k : Nat, k ≤ 9 ∧ x = ⟨2, k, 0, 0⟩ ∧ t = [115, UInt8.ofNat (48 + k)]) ∨
  (∃ y l, GS y ∧ TxR y l ∧ ((x = ⟨1, 0, wd y, 0⟩ ∧ t = l) ∨ (y ≠ 0 ∧ x = ⟨1, 0, 0, wd y⟩ ∧ t = l ++ [105])))
def Ex.Val : Ex → Prop
  | .leaf x t => LeafOk x t
  | .one x a => (3 ≤ x.kind ∧ x.kind ≤ 7) ∧ x = nd x.kind ∧ a.Val
  | .two x a b => (8 ≤ x.kind ∧ x.kind ≤ 12) ∧ x = nd x.kind ∧ a.Val ∧ b.Val

/-! ### Places in a text laid together -/
theorem skip_app (A B : List UInt8) : skip (A ++ B) A.length = A.length + skipL B := by
  unfold skip
  rw [List.drop_left]
theorem get_app (A B : List UInt8) (k : Nat) : (A ++ B)[A.length + k]? = B[k]? := by
  rw [List.getElem?_append_right (by omega)]
  congr 1
  omega
theorem stands_app {A B : List UInt8} {i : Nat} (h : skip (A ++ B) i = A.length) (t : List UInt8) : stands (A ++ B) i t = Lib.hasPrefix B t := by
  unfold stands
  rw [h, List.drop_left]
/-- The next byte that is no space. -/
def nxt (B : List UInt8) : Option UInt8 := B[skipL B]?
theorem nxt_app (A B : List UInt8) : (A ++ B)[skip (A ++ B) A.length]? = nxt B := by
  rw [skip_app, get_app]; rfl
theorem nxt_of {A B : List UInt8} {i : Nat} (h : skip (A ++ B) i = skip (A ++ B) A.length) : (A ++ B)[skip (A ++ B) i]? = nxt B := by
  rw [h, nxt_app]
/-- What may stand behind an operand. -/
def Tail (B : List UInt8) : Prop := ∀ c, B.head? = some c → c = 32 ∨ c = 41
def Stop (n : Nat) (B : List UInt8) : Prop := ∀ m, n ≤ m → m ≤ 2 → opK m (nxt B) = none
theorem Stop.up {n m : Nat} {B : List UInt8} (h : Stop n B) (hm : n ≤ m) : Stop m B := fun k h1 h2 => h k (by omega) h2
theorem stop_shut (n : Nat) (B : List UInt8) : Stop n (41 :: B) := by
  intro m _ h2
  have e : nxt (41 :: B) = some 41 := rfl
  rw [e]
  match m, h2 with
  | 0, _ => rfl
  | 1, _ => rfl
  | 2, _ => rfl
theorem tail_shut (B : List UInt8) : Tail (41 :: B) := fun c h => .inr (Option.some.inj h).symm
/-- A text that begins with no space. -/
def NoSp (B : List UInt8) : Prop := ∃ c l, B = c :: l ∧ c ≠ 32
theorem NoSp.skipL {B : List UInt8} (h : NoSp B) (C : List UInt8) : skipL (B ++ C) = 0 := by
  obtain ⟨c, l, rfl, hc⟩ := h
  show (if c = 32 then _ else 0) = 0
  rw [if_neg hc]
theorem ins_noSp {n b : Nat} {t : List UInt8} (h : NoSp t) : NoSp (ins n t b) := by
  unfold ins
  split
  · exact ⟨40, _, rfl, by decide⟩
  · exact h

/-! ### The three sayings of a tree -/
def Txt (n : Nat) (t : Ex) : List UInt8 := ins (n + 1) t.txt t.str
def PF (t : Ex) : Prop := ∀ A post out i, skip (A ++ (Txt 3 t ++ post)) i = A.length → Tail post →
  ∃ i', Pr (A ++ (Txt 3 t ++ post)) .fac i out (some (i', out ++ t.flat)) ∧ skip (A ++ (Txt 3 t ++ post)) i' = skip (A ++ (Txt 3 t ++ post)) (A ++ Txt 3 t).length
def PC (n : Nat) (t : Ex) : Prop := ∀ A post out i, skip (A ++ (Txt n t ++ post)) i = A.length → Tail post → Stop n post →
  ∃ i', Pr (A ++ (Txt n t ++ post)) (.lev n) i out (some (i', out ++ t.flat)) ∧ skip (A ++ (Txt n t ++ post)) i' = skip (A ++ (Txt n t ++ post)) (A ++ Txt n t).length
def PD (n : Nat) (t : Ex) : Prop := ∀ A post out i, skip (A ++ (Txt n t ++ post)) i = A.length → Tail post → Stop (n + 1) post →
  ∃ i', skip (A ++ (Txt n t ++ post)) i' = skip (A ++ (Txt n t ++ post)) (A ++ Txt n t).length ∧ ∀ r, Pr (A ++ (Txt n t ++ post)) (.loop n) i' (out ++ t.flat) r → Pr (A ++ (Txt n t ++ post)) (.lev n) i out r
theorem skip_skip {A B : List UInt8} {i : Nat} (h : skip (A ++ B) i = skip (A ++ B) A.length) : skip (A ++ B) (skip (A ++ B) i) = skip (A ++ B) A.length := by
  rw [h]
  exact skip_idem (by simp)
theorem PC.of_PF {t : Ex} (h : PF t) : PC 3 t := fun A post out i hi ht _ => by
  obtain ⟨i', h1, h2⟩ := h A post out i hi ht
  exact ⟨i', h1.lev3, h2⟩
theorem PD.of_PC {n : Nat} {t : Ex} (hn : n ≤ 2) (hs : t.str ≠ n + 1) (h : PC (n + 1) t) : PD n t := by
  have e : Txt n t = Txt (n + 1) t := by
    unfold Txt ins
    by_cases h1 : t.str < n + 1
    · rw [if_pos h1, if_pos (by omega)]
    · rw [if_neg h1, if_neg (by omega)]
  intro A post out i
  rw [e]
  intro hi ht hst
  obtain ⟨i', h1, h2⟩ := h A post out i hi ht hst
  exact ⟨i', h2, fun r hr => h1.lev (by omega) hr⟩
theorem PC.of_PD {n : Nat} {t : Ex} (hn : n ≤ 2) (h : PD n t) : PC n t := fun A post out i hi ht hst => by
  obtain ⟨i', h1, h2⟩ := h A post out i hi ht (hst.up (by omega))
  have e : A ++ (Txt n t ++ post) = (A ++ Txt n t) ++ post := (List.append_assoc _ _ _).symm
  rw [e] at h1 h2 ⊢
  refine ⟨skip ((A ++ Txt n t) ++ post) i', h2 _ (Pr.loop_end ?_), skip_skip h1⟩
  rw [nxt_of h1]
  exact hst n (Nat.le_refl _) hn
theorem PC.down {t : Ex} {k : Nat} (hk : k ≤ 3) (hs : k + 1 ≤ t.str) (h : PC k t) : ∀ n, n ≤ k → PC n t := by
  intro n hn
  obtain ⟨d, hd⟩ : ∃ d, n + d = k := ⟨k - n, by omega⟩
  induction d generalizing n with
  | zero => have : n = k := by omega
            subst this; exact h
  | succ d ih => exact PC.of_PD (by omega) (PD.of_PC (by omega) (by omega) (ih (n + 1) (by omega) (by omega)))
theorem PC.up {t : Ex} (h : PC 3 t) : ∀ n, t.str ≤ n → n ≤ 3 → PC n t := by
  intro n h1 h2
  obtain ⟨d, hd⟩ : ∃ d, n + d = 3 := ⟨3 - n, by omega⟩
  induction d generalizing n with
  | zero => have : n = 3 := by omega
            subst this; exact h
  | succ d ih => exact PC.of_PD (by omega) (PD.of_PC (by omega) (by omega) (ih (n + 1) (by omega) (by omega) (by omega)))
end Go.Proofs.YtjgjgjkffoagoaaDoor
