/- What the reader of expressions comes to, as a plain function. No program in sight. -/
import Derived.Test.YtjgjgjkffoagoaaDoorRdC
namespace Go.Proofs.YtjgjgjkffoagoaaDoor
open Go.RowKit
set_option maxRecDepth 100000
set_option maxHeartbeats 1000000
set_option linter.unusedVariables false
set_option linter.unusedSimpArgs false

/-- Which of the reader's functions. -/
inductive Md where
  | lev (n : Nat)
  | loop (n : Nat)
  | fac
  | word (k : Int)
/-- Which operator a byte is at a level. -/
def opK (n : Nat) (c : Option UInt8) : Option Int :=
  match n, c with
  | 0, some c => if c = 61 then some 12 else none
  | 1, some c => if c = 43 then some 8 else if c = 45 then some 9 else none
  | 2, some c => if c = 42 then some 10 else if c = 47 then some 11 else none
  | _, _ => none
/-- One after the other; 'some none': it fails; 'none': out of breath. -/
def thenP (x : Option (Option St)) (g : Nat → List Nd → Option (Option St)) : Option (Option St) := match x with
  | none => none
  | some none => some none
  | some (some (i, o)) => g i o
abbrev nd (k : Int) : Nd := ⟨k, 0, 0, 0⟩
/-- A closing parenthesis, and a node. -/
def shutP (s : List UInt8) (t : List Nd) (i : Nat) (o : List Nd) : Option (Option St) := if stands s i [41] then some (some (skip s i + 1, o ++ t)) else some none
def slotP (s : List UInt8) (p : Nat) (out : List Nd) : Option St := match s[p]? with
  | some c => if isFig c then some (p + 1, out ++ [⟨2, (c.toNat : Int) - 48, 0, 0⟩]) else none
  | none => none
noncomputable def prs (s : List UInt8) : Nat → Md → Nat → List Nd → Option (Option St)
  | 0, _, _, _ => none
  | f + 1, .lev n, i, out => if n = 3 then prs s f .fac i out else thenP (prs s f (.lev (n + 1)) i out) (fun i o => prs s f (.loop n) i o)
  | f + 1, .loop n, i, out => match opK n s[skip s i]? with
    | none => some (some (skip s i, out))
    | some k => thenP (prs s f (.lev (n + 1)) (skip s i + 1) out) (fun i o => prs s f (.loop n) i (o ++ [nd k]))
  | f + 1, .fac, i, out =>
    if stands s i [43] then thenP (prs s f .fac (skip s i + 1) out) (fun i o => some (some (i, o ++ [nd 3])))
    else if stands s i [45] then thenP (prs s f .fac (skip s i + 1) out) (fun i o => some (some (i, o ++ [nd 4])))
    else if stands s i [40] then thenP (prs s f (.lev 0) (skip s i + 1) out) (shutP s [])
    else if stands s i [99, 111, 110, 106] then prs s f (.word 5) (skip s i + 4) out
    else if stands s i [114, 101] then prs s f (.word 6) (skip s i + 2) out
    else if stands s i [105, 109] then prs s f (.word 7) (skip s i + 2) out
    else if stands s i [115] then some (slotP s (skip s i + 1) out)
    else some (numF s (skip s i) out)
  | f + 1, .word k, i, out => if stands s i [40] then thenP (prs s f (.lev 0) (skip s i + 1) out) (shutP s [nd k]) else some none
end Go.Proofs.YtjgjgjkffoagoaaDoor
