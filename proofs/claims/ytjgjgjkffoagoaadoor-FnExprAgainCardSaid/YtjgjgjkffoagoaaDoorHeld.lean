/- Regions that draw their order: S may be strengthened on the way. No program in sight. -/
import Derived.Deep.RegionHeld3
import Derived.Test.YtjgjgjkffoagoaaDoorFmB
namespace Go.Proofs.YtjgjgjkffoagoaaDoor
open Go
set_option linter.unusedVariables false
theorem wpAnyH_str {P : Program} {md : Region.Mode} {ops : Array Oper} {Q : Exit → Act → World → Prop} {S S' : World → Prop} (hS : ∀ w, S' w → S w) : ∀ (fuel : Nat) (listed : Array Bool) (a : Act) (w : World), wpAnyH P md ops Q S' fuel listed a w → wpAnyH P md ops Q S fuel listed a w
  | 0, _, _, _, h => h
  | fuel + 1, _, _, _, h => ⟨h.1, fun i hi => wpOp_mono (fun a' w' h' => ⟨hS w' h'.1, wpAnyH_str hS fuel _ _ _ h'.2⟩) (h.2 i hi)⟩
/-- The same, with the fact on the world at hand. -/
theorem wpAnyH_more {P : Program} {md : Region.Mode} {ops : Array Oper} {Q : Exit → Act → World → Prop} {S S' : World → Prop} {fuel : Nat} {listed : Array Bool} {a : Act} {w : World} (hS : ∀ w, S' w → S w) (hw : S' w) (h : S' w → wpAnyH P md ops Q S' fuel listed a w) : wpAnyH P md ops Q S fuel listed a w := wpAnyH_str hS _ _ _ _ (h hw)
end Go.Proofs.YtjgjgjkffoagoaaDoor
