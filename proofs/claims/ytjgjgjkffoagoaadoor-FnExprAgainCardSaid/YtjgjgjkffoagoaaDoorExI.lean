/- The program's ExprOk at a drawn expression. No condition. -/
import Derived.Test.YtjgjgjkffoagoaaDoorEx
namespace Go.Proofs.YtjgjgjkffoagoaaDoor
open Go.RowKit
set_option maxRecDepth 100000
set_option linter.unusedVariables false
theorem exprOkI_any (l : List Nd) (v : Value) (w : World) (hv : NView w v l) (hl : 1 ≤ l.length ∧ l.length ≤ 60) (hg : ∀ x ∈ l, GoodN x) (hex : IsEx l) :
    Calls Tryd.prog 8 #[v] w fun e w' => e = .returned (.bool true) ∧ Below w.heap.size w w' := by
  go_enter Tryd.func8, Tryd.ntmps8
  go_wp2_with (go_at_call 23; (with_reducible refine (heights_any l v _ hv hl hg hex).mono ?_); rintro e w1 ⟨v1, hs, rfl, _, _, _, hb1⟩)
  go_ret
  exact ⟨rfl, hb1⟩
end Go.Proofs.YtjgjgjkffoagoaaDoor
